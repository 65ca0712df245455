/- The codec writes numbers: num, nums, flag. -/
import Derived.Test.YtanmfldgillodaaGreatPut1
import Derived.Test.YtanmfldgillodaaGreatStrings
set_option linter.unusedSimpArgs false
set_option linter.unusedVariables false
namespace Go.Proofs.YtanmfldgillodaaGreat
open Go.RowKit

/-- Cells of a variable: from place o of block p on. -/
structure Var (w : World) (p o : Nat) (cs : List Value) : Prop where
  ex : ∃ cur t, w.heap[p]? = some (.cells cur t) ∧ t ≠ 137 ∧ t ≠ 5 ∧ ∀ f, f < cs.length → cur[o + f]? = cs[f]?

theorem Var.cell {w : World} {p o : Nat} {cs : List Value} (h : Var w p o cs) {f : Nat} (hf : f < cs.length) : w.cell? ⟨p, o + f, none⟩ = some cs[f] := by
  obtain ⟨cur, t, h1, -, -, h2⟩ := h.ex
  rw [cell_in h1, h2 f hf, List.getElem?_eq_getElem hf]
theorem Var.frozen {w : World} {p o k : Nat} {cs : List Value} (h : Var w p o cs) : w.frozen? ⟨p, k, none⟩ = false := by
  obtain ⟨cur, t, h1, -⟩ := h.ex
  exact frozen_in h1
theorem Var.lt {w : World} {p o : Nat} {cs : List Value} (h : Var w p o cs) : p < w.heap.size := by
  obtain ⟨cur, t, h1, -⟩ := h.ex
  exact lt_in h1
theorem Var.heap {w w' : World} {p o : Nat} {cs : List Value} (h : Var w p o cs) (hk : w'.heap[p]? = w.heap[p]?) : Var w' p o cs := by
  obtain ⟨cur, t, h1, h2⟩ := h.ex
  exact ⟨cur, t, hk.trans h1, h2⟩
theorem Var.sub {w : World} {p o : Nat} {cs : List Value} (h : Var w p o cs) {i : Nat} {ds : List Value} (hd : ∀ f, f < ds.length → i + f < cs.length ∧ cs[i + f]? = ds[f]?) : Var w p (o + i) ds := by
  obtain ⟨cur, t, h1, h2, h3, h4⟩ := h.ex
  refine ⟨cur, t, h1, h2, h3, fun f hf => ?_⟩
  rw [Nat.add_assoc, h4 _ (hd f hf).1, (hd f hf).2]
theorem Var.ne {w : World} {p o c : Nat} {cs : List Value} {cur : Array Value} {fz : Nat × Nat} (h : Var w p o cs) (hc : w.heap[c]? = some (.cells cur 137 fz)) : p ≠ c := by
  rintro rfl
  obtain ⟨cur', t, h1, h2, -⟩ := h.ex
  rw [h1] at hc
  simp only [Option.some.injEq, Obj.cells.injEq] at hc
  exact h2 hc.2.1
theorem Var.neOwn {w : World} {p o n size : Nat} {cs l : List Value} {v : Value} {g : Option Nat} (h : Var w p o cs) (hw : Own w 5 size v n l g) : g ≠ some p := by
  obtain ⟨cur', t, h1, -, h3, -⟩ := h.ex
  exact fun hg => hw.ne h1 (fun e => h3 e.symm) p hg rfl

theorem Var.wrote {w w' : World} {p o c : Nat} {cs : List Value} {out more : List UInt8} {g : Option Nat} (h : Var w p o cs) (hw : Writes w c out g) (hk : Kept (fun k => k = c ∨ g = some k) w w') : Var w' p o cs := by
  obtain ⟨vo, h1, h2⟩ := hw.ex
  exact h.heap (hk.block _ h.lt (fun e => by
    rcases e with e | e
    · exact h.ne h1 e
    · exact h.neOwn h2 e))

/-- A store of what is there changes nothing. -/
theorem setCell_same' {w : World} {p k : Nat} {v : Value} (h : w.cell? ⟨p, k, none⟩ = some v) : w.setCell ⟨p, k, none⟩ v = w := by
  obtain ⟨heap, tape, drawn, os, outp⟩ := w
  simp only [World.cell?] at h
  simp only [World.setCell]
  congr 1
  apply Array.ext (by simp)
  intro i h1 h2
  rw [Array.getElem_modify]
  split
  · rename_i hi
    subst hi
    have hg : heap[p]? = some heap[p] := Array.getElem?_eq_getElem (by simpa using h2)
    rw [hg] at h
    cases ho : heap[p] with
    | cells cur t fz =>
      rw [ho] at h
      simp only [Option.isSome_none, Bool.false_eq_true, if_false]
      congr 1
      apply Array.ext (by simp)
      intro j h3 h4
      by_cases hj : k = j
      · subst hj
        rw [Array.getElem_setIfInBounds_self]
        simp at h
        rw [Array.getElem?_eq_getElem h4] at h
        simpa using h.symm
      · rw [Array.getElem_setIfInBounds_ne (by simpa using h3) hj]
    | _ => rfl
  · rfl

theorem wrap_u64 (n : Int) (h : in64 n) : IntKind.i64.wrap (n % 18446744073709551616) = n := by
  obtain ⟨h1, h2⟩ := h
  rw [IntKind.wrap_i64]
  omega

set_option maxRecDepth 100000 in
set_option maxHeartbeats 1600000 in
theorem numWrite_c {w : World} {c p o : Nat} {out : List UInt8} {g : Option Nat} (h : Writes w c out g) (n : Int) (hn : in64 n) (hv : Var w p o [.int .i64 n]) (hm : out.length ≤ 100000000000000) :
    Calls Tryz.prog 63 #[.pointer (some ⟨c, 0, none⟩), .pointer (some ⟨p, o, none⟩)] w fun e w' => e = .returned (.tuple #[]) ∧ Wrote w w' c out g (encI n) := by
  have z0 : w.cell? ⟨p, o, none⟩ = some (.int .i64 n) := hv.cell (f := 0) (by simp)
  have hlp := hv.lt
  obtain ⟨V, hV⟩ : ∃ V : Nat, V = u64 n := ⟨_, rfl⟩
  have hVl : V < 18446744073709551616 := by rw [hV]; exact u64_lt n
  have e1 : n % 18446744073709551616 = (V : Int) := by rw [hV]; exact (u64_eq n).symm
  have e1' : IntKind.u64.wrap n = (V : Int) := by rw [← e1]; simp [IntKind.wrap, IntKind.bits, IntKind.signed]
  have e2 : IntKind.i64.wrap (V : Int) = n := by rw [← e1]; exact wrap_u64 n hn
  have HV : Hid (encI n = leB 8 V) := Lib.hid (by rw [hV]; rfl)
  clear hV
  rw [HV.out]
  go_enter Tryz.func63, Tryz.ntmps63
  go_wp2_with fail
  refine (wordWrite_c h V 8 hVl (by omega) hm).mono ?_
  rintro e w1 ⟨rfl, hw⟩
  have hW := hw
  obtain ⟨g1, hw1, k1, -⟩ := hw
  have hv1 := hv.wrote (more := []) h k1
  have z1 : w1.cell? ⟨p, o, none⟩ = some (.int .i64 n) := hv1.cell (f := 0) (by simp)
  have f1 : w1.frozen? ⟨p, o, none⟩ = false := hv1.frozen
  have l1 := hv1.lt
  have e3 := setCell_same' z1
  have HW := Lib.hid hW
  clear hW z0 e1 e1'
  go_wp2
  exact bodyPost_end (v := .tuple #[]) (by simp [results, Tryz.results63]) rfl ⟨rfl, HW.out⟩

/-- Written once more. -/
theorem Wrote.more {w w1 w2 : World} {c : Nat} {out m1 m2 : List UInt8} {g g1 : Option Nat} (hk1 : Kept (fun k => k = c ∨ g = some k) w w1) (hg1 : ∀ k, g1 = some k → g = some k ∨ w.heap.size ≤ k) (h2 : Wrote w1 w2 c (out ++ m1) g1 m2) : Wrote w w2 c out g (m1 ++ m2) := by
  obtain ⟨g2, o2, k2, hg2⟩ := h2
  have h0 := hk1.size
  refine ⟨g2, by rw [← List.append_assoc]; exact o2, hk1.thn k2 (fun i hi => ?_), fun k hk => ?_⟩
  · rcases hi with hi | hi
    · exact .inl (.inl hi)
    · rcases hg1 i hi with h | h
      · exact .inl (.inr h)
      · exact .inr h
  · rcases hg2 k hk with h | h
    · exact hg1 k h
    · exact .inr (by omega)

/-- A number's place and value. -/
structure Place where
  p : Nat
  o : Nat
  n : Int
def Place.ptr (q : Place) : Value := .pointer (some ⟨q.p, q.o, none⟩)
def Place.enc (q : Place) : List UInt8 := encI q.n

set_option maxRecDepth 100000 in
set_option maxHeartbeats 1600000 in
theorem numsWrite_c {w : World} {c : Nat} {out : List UInt8} {g : Option Nat} (h : Writes w c out g) {v : Value} {ps : List Place} {gp : Option Nat} (hr : Reads w 1 v ps.length (ps.map Place.ptr) gp) (hgp : ∀ k, gp = some k → k ≠ c ∧ g ≠ some k) (hv : ∀ q ∈ ps, Var w q.p q.o [.int .i64 q.n] ∧ in64 q.n) (hl : ps.length ≤ 100) (hm : out.length ≤ 90000000000000) :
    Calls Tryz.prog 65 #[.pointer (some ⟨c, 0, none⟩), v] w fun e w' => e = .returned (.tuple #[]) ∧ Wrote w w' c out g (ps.flatMap Place.enc) := by
  obtain ⟨a, cp, rfl, hc⟩ := hr.shape
  go_enter Tryz.func65, Tryz.ntmps65
  go_wp2
  go_loopw [8] (fun i w' => ∃ k : Nat, k ≤ ps.length ∧ i = .int .i64 k ∧ Wrote w w' c out g ((ps.take k).flatMap Place.enc)) (fun i _ => ps.length - (intOf i).toNat)
  case atStart => exact ⟨0, by omega, rfl, g, by simpa using h, Kept.refl _ _, fun k hk => .inl hk⟩
  case round =>
    obtain ⟨k, hk, rfl, g1, hw1, k1, hg1⟩ := hrel
    by_cases hk2 : k < ps.length
    · have hki : (k : Int) < (ps.length : Int) := by omega
      have r1 := hr.kept k1 (fun k hk hh => by
        rcases hh with hh | hh
        · exact (hgp k hk).1 hh
        · exact (hgp k hk).2 hh)
      obtain ⟨b, off, rfl, rfl, hcell⟩ := r1.one hk2
      obtain ⟨q, hq⟩ : ∃ q, q = ps[k] := ⟨_, rfl⟩
      have hqm : q ∈ ps := by rw [hq]; exact List.getElem_mem hk2
      have hvq := (hv q hqm).1.wrote (more := []) h k1
      have hft := flatMap_take Place.enc ps k hk2
      rw [← hq] at hcell hft
      have hlen : ((ps.take k).flatMap Place.enc).length ≤ 800 := by
        have h1 : ∀ l : List Place, (l.flatMap Place.enc).length = 8 * l.length := by
          intro l
          induction l with
          | nil => rfl
          | cons a r ih => rw [List.flatMap_cons, List.length_append, ih, Place.enc, encI_length, List.length_cons]; omega
        rw [h1, List.length_take]
        omega
      obtain ⟨p, o, n⟩ := q
      simp only [Place.ptr] at hcell
      simp only [Place.enc] at hft
      simp only at hvq
      have hin : in64 n := (hv _ hqm).2
      have HFT := Lib.hid hft
      have HW1 := Lib.hid hw1
      clear hft hq hqm
      go_wp2_with fail
      refine (numWrite_c HW1.out n hin hvq (by rw [List.length_append]; omega)).mono ?_
      rintro e w2 ⟨rfl, hw2⟩
      have hw3 := Wrote.more k1 hg1 hw2
      rw [← HFT.out] at hw3
      have HW3 := Lib.hid hw3
      clear hw3 hw2
      go_wp2
      exact ⟨⟨k + 1, by omega, by simp, HW3.out⟩, by simp [intOf]; omega⟩
    · obtain rfl : k = ps.length := by omega
      go_wp2
      rw [List.take_length] at hw1
      exact bodyPost_end (v := .tuple #[]) (by simp [results, Tryz.results65]) rfl ⟨rfl, g1, hw1, k1, hg1⟩

set_option maxRecDepth 100000 in
set_option maxHeartbeats 1600000 in
theorem flagWrite_c {w : World} {c p o : Nat} {out : List UInt8} {g : Option Nat} (h : Writes w c out g) (b : Bool) (hv : Var w p o [.bool b]) (hm : out.length ≤ 100000000000000) :
    Calls Tryz.prog 142 #[.pointer (some ⟨c, 0, none⟩), .pointer (some ⟨p, o, none⟩)] w fun e w' => e = .returned (.tuple #[]) ∧ Wrote w w' c out g (bB b) := by
  have z0 : w.cell? ⟨p, o, none⟩ = some (.bool b) := hv.cell (f := 0) (by simp)
  have hlp := hv.lt
  cases b with
  | true =>
    go_enter Tryz.func142, Tryz.ntmps142
    go_wp2_with fail
    refine (wordWrite_c h 1 1 (by omega) (by omega) hm).mono ?_
    rintro e w1 ⟨rfl, hw⟩
    have hW := hw
    obtain ⟨g1, hw1, k1, -⟩ := hw
    have hv1 := hv.wrote (more := []) h k1
    have z1 : w1.cell? ⟨p, o, none⟩ = some (.bool true) := hv1.cell (f := 0) (by simp)
    have f1 : w1.frozen? ⟨p, o, none⟩ = false := hv1.frozen
    have l1 := hv1.lt
    have e3 := setCell_same' z1
    have HW := Lib.hid hW
    clear hW z0
    go_wp2
    exact bodyPost_end (v := .tuple #[]) (by simp [results, Tryz.results142]) rfl ⟨rfl, HW.out⟩
  | false =>
    go_enter Tryz.func142, Tryz.ntmps142
    go_wp2_with fail
    refine (wordWrite_c h 0 1 (by omega) (by omega) hm).mono ?_
    rintro e w1 ⟨rfl, hw⟩
    have hW := hw
    obtain ⟨g1, hw1, k1, -⟩ := hw
    have hv1 := hv.wrote (more := []) h k1
    have z1 : w1.cell? ⟨p, o, none⟩ = some (.bool false) := hv1.cell (f := 0) (by simp)
    have f1 : w1.frozen? ⟨p, o, none⟩ = false := hv1.frozen
    have l1 := hv1.lt
    have e3 := setCell_same' z1
    have HW := Lib.hid hW
    clear hW z0
    go_wp2
    exact bodyPost_end (v := .tuple #[]) (by simp [results, Tryz.results142]) rfl ⟨rfl, HW.out⟩

end Go.Proofs.YtanmfldgillodaaGreat
