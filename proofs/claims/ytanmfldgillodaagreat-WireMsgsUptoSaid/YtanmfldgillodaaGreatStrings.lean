/- The contract of Strings. -/
import Derived.Test.YtanmfldgillodaaGreatWrite3
set_option linter.unusedSimpArgs false
set_option linter.unusedVariables false
namespace Go.Proofs.YtanmfldgillodaaGreat
open Go.RowKit

/-- Texts in bytes. -/
def encT (s : ByteArray) : List UInt8 := leB 4 s.size ++ s.data.toList
def encTs (ss : List ByteArray) : List UInt8 := ss.flatMap encT

/-- An element of a slice of one-cell things. -/
theorem Reads.one {α : Type} {f : α → Value} {w : World} {a : Option Addr} {c : Nat} {l : List α} {g : Option Nat} (h : Reads w 1 (.slice a l.length c) l.length (l.map f) g) {k : Nat} (hk : k < l.length) :
    ∃ b off, g = some b ∧ a = some ⟨b, off, none⟩ ∧ w.cell? ⟨b, off + k, none⟩ = some (f l[k]) := by
  obtain ⟨h0, ⟨a', c', he, hx⟩ | ⟨b, off, c', rfl, he, h1, h2, h3⟩⟩ := h
  · omega
  · simp only [Value.slice.injEq, true_and] at he
    obtain ⟨rfl, rfl⟩ := he
    refine ⟨b, off, rfl, rfl, ?_⟩
    rw [h3 k (by simpa using hk), List.getElem?_map, List.getElem?_eq_getElem hk]
    rfl

theorem encTs_take (ss : List ByteArray) (k : Nat) (hk : k < ss.length) : encTs (ss.take (k + 1)) = encTs (ss.take k) ++ encT ss[k] := by
  unfold encTs
  rw [List.take_succ_eq_append_getElem hk, List.flatMap_append]
  simp

theorem encTs_le (ss : List ByteArray) (k : Nat) : (encTs (ss.take k)).length ≤ (encTs ss).length := by
  have h : encTs ss = encTs (ss.take k) ++ encTs (ss.drop k) := by
    unfold encTs
    rw [← List.flatMap_append, List.take_append_drop]
  rw [h, List.length_append]
  omega

set_option maxRecDepth 100000 in
set_option maxHeartbeats 1600000 in
theorem listWrite_c {w : World} {c p : Nat} {out : List UInt8} {g : Option Nat} (h : Writes w c out g) {v : Value} {ss : List ByteArray} {gs : Option Nat} (hp : w.heap[p]? = some (.cells #[v] 46)) (hr : Reads w 1 v ss.length (ss.map Value.string) gs) (hgs : ∀ k, gs = some k → k ≠ c ∧ g ≠ some k ∧ k < w.heap.size) (hn : ss.length ≤ 100000000000000) (hm : out.length + (encTs ss).length ≤ 80000000000000) :
    Calls Tryz.prog 78 #[.pointer (some ⟨c, 0, none⟩), .pointer (some ⟨p, 0, none⟩), .func (.func 79) #[.pointer (some ⟨c, 0, none⟩)] #[]] w fun e w' => e = .returned (.tuple #[]) ∧ Wrote w w' c out g (leB 4 ss.length ++ encTs ss) := by
  obtain ⟨a, cp, rfl, hc⟩ := hr.shape
  have p0 : w.cell? ⟨p, 0, none⟩ = some (.slice a ss.length cp) := cell_in hp
  have hlp := lt_in hp
  have hpc : p ≠ c := fun e => by
    obtain ⟨vo, h1, -⟩ := h.ex
    rw [e] at hp
    rw [h1] at hp
    have := congrArg (fun o => match o with | some (Obj.cells _ t _) => t | _ => 0) hp
    simp at this
  have hpg : ∀ k, g = some k → k ≠ p := by
    obtain ⟨vo, -, h2⟩ := h.ex
    exact h2.ne hp (by decide)
  have hlc : c < w.heap.size := by
    obtain ⟨vo, h1, -⟩ := h.ex
    exact lt_in h1
  have HP := Lib.hid hp
  clear hp
  go_enter Tryz.func78, Tryz.ntmps78
  go_wp2_with fail
  refine (countWrite_c h ss.length (by omega) (by omega)).mono ?_
  rintro e w1 ⟨rfl, g1, hw1, k1, hg1⟩
  have c2 : w1.cell? ⟨c, 2, none⟩ = some (.bool false) := by
    obtain ⟨vo, h1, -⟩ := hw1.ex
    exact cell_in h1
  have hl1 : c < w1.heap.size := by
    obtain ⟨vo, h1, -⟩ := hw1.ex
    exact lt_in h1
  clear p0
  go_wp2
  go_loopw [22] (fun i w' => ∃ k : Nat, k ≤ ss.length ∧ i = .int .i64 k ∧ Wrote w w' c out g (leB 4 ss.length ++ encTs (ss.take k))) (fun i _ => ss.length - (intOf i).toNat)
  case atStart => exact ⟨0, by omega, rfl, g1, by simpa [encTs] using hw1, k1, hg1⟩
  case round =>
    obtain ⟨k, hk, rfl, g2, hw2, k2, hg2⟩ := hrel
    by_cases hk2 : k < ss.length
    · have hki : (k : Int) < (ss.length : Int) := by omega
      have r2 := hr.kept k2 (fun k hk h => by
        rcases h with h | h
        · exact (hgs k hk).1 h
        · exact (hgs k hk).2.1 h)
      obtain ⟨b, off, rfl, rfl, hcell⟩ := r2.one hk2
      obtain ⟨s, hs⟩ : ∃ s, s = ss[k] := ⟨_, rfl⟩
      rw [← hs] at hcell
      have hp2 : wr.heap[p]? = _ := (k2.block _ hlp (fun h => by rcases h with h | h; exact hpc h; exact hpg p h rfl)).trans HP.out
      have p0 : wr.cell? ⟨p, 0, none⟩ = some (.slice (some ⟨b, off, none⟩) ss.length cp) := cell_in hp2
      have l2 := lt_in hp2
      clear hp2
      obtain ⟨L, hL⟩ : ∃ L, L = out ++ (leB 4 ss.length ++ encTs (ss.take k)) := ⟨_, rfl⟩
      rw [← hL] at hw2
      have hLe : L ++ (leB 4 s.size ++ s.data.toList) = out ++ (leB 4 ss.length ++ encTs (ss.take (k + 1))) := by
        rw [encTs_take ss k hk2, hL, ← hs, encT]
        simp only [List.append_assoc]
      have hLl : L.length + s.size ≤ 80000000000010 := by
        have h1 := encTs_le ss (k + 1)
        have h2 := congrArg List.length hLe
        simp only [List.length_append, leB_length] at h2
        have h3 : s.data.toList.length = s.size := by simp
        omega
      have HLe := Lib.hid hLe
      clear hL hLe hs
      go_wp2_with fail
      have x3 : (wr.alloc (Obj.cells #[Value.string s] 9)).heap[wr.heap.size]? = some (Obj.cells #[Value.string s] 9) := heap_alloc_new' _ _
      have hw3 := hw2.kept (Kept.alloc (fun _ => False) wr (Obj.cells #[Value.string s] 9)) (fun h => h) (fun _ _ h => h)
      have k3 := k2.al (Obj.cells #[Value.string s] 9)
      have s3 : (wr.alloc (Obj.cells #[Value.string s] 9)).heap.size = wr.heap.size + 1 := by simp
      have s2 := k2.size
      generalize wr.alloc (Obj.cells #[Value.string s] 9) = w3 at x3 hw3 k3 s3 ⊢
      refine (textWrite_c hw3 x3 (by omega)).mono ?_
      rintro e w4 ⟨rfl, g4, hw4, k4, hg4⟩
      rw [HLe.out] at hw4
      have K4 : Kept (fun k => k = c ∨ g = some k) w w4 := k3.thn k4 (fun i hi => by
        rcases hi with h | h | h
        · exact .inl (.inl h)
        · exact .inr (by omega)
        · rcases hg2 i h with h | h
          · exact .inl (.inr h)
          · exact .inr h)
      have hg4' : ∀ k, g4 = some k → g = some k ∨ w.heap.size ≤ k := fun k hk => by
        rcases hg4 k hk with h | h
        · exact hg2 k h
        · exact .inr (by omega)
      have HW4 := Lib.hid hw4
      clear hw4
      go_wp2
      exact ⟨⟨k + 1, by omega, by simp, g4, HW4.out, K4, hg4'⟩, by simp [intOf]; omega⟩
    · obtain rfl : k = ss.length := by omega
      go_wp2
      rw [List.take_length] at hw2
      exact bodyPost_ret (v := .tuple #[]) (by simp [results, Tryz.results78]) rfl ⟨rfl, g2, hw2, k2, hg2⟩

set_option maxRecDepth 100000 in
set_option maxHeartbeats 800000 in
theorem textsWrite_c {w : World} {c p : Nat} {out : List UInt8} {g : Option Nat} (h : Writes w c out g) {v : Value} {ss : List ByteArray} {gs : Option Nat} (hp : w.heap[p]? = some (.cells #[v] 46)) (hr : Reads w 1 v ss.length (ss.map Value.string) gs) (hgs : ∀ k, gs = some k → k ≠ c ∧ g ≠ some k ∧ k < w.heap.size) (hn : ss.length ≤ 100000000000000) (hm : out.length + (encTs ss).length ≤ 80000000000000) :
    Calls Tryz.prog 60 #[.pointer (some ⟨c, 0, none⟩), .pointer (some ⟨p, 0, none⟩)] w fun e w' => e = .returned (.tuple #[]) ∧ Wrote w w' c out g (leB 4 ss.length ++ encTs ss) := by
  have hmf : ∀ (fn : Fn) (first cap : Array Value) (w : World), (Instr.makeFunc fn first cap).run Tryz.prog w = .ok (.func fn first cap) w := fun _ _ _ _ => rfl
  go_enter Tryz.func60, Tryz.ntmps60
  go_wp2_with fail
  refine (listWrite_c h hp hr hgs hn hm).mono ?_
  rintro e w1 ⟨rfl, hw⟩
  go_wp2
  exact bodyPost_end (v := .tuple #[]) (by simp [results, Tryz.results60]) rfl ⟨rfl, hw⟩

set_option maxRecDepth 100000 in
set_option maxHeartbeats 800000 in
theorem strings_c {w : World} {v : Value} {ss : List ByteArray} {gs : Option Nat} (hr : Reads w 1 v ss.length (ss.map Value.string) gs) (hgs : ∀ k, gs = some k → k < w.heap.size) (hn : ss.length ≤ 100000000000000) (hm : (encTs ss).length ≤ 80000000000000) :
    Calls Tryz.prog 36 #[v] w fun e w' => (∃ vc, e = .returned vc ∧ Fresh w w' vc (leB 4 ss.length ++ encTs ss)) ∧ Kept (fun _ => False) w w' := by
  obtain ⟨R, hR⟩ : ∃ R, R = leB 4 ss.length ++ encTs ss := ⟨_, rfl⟩
  rw [← hR]
  have HR := Lib.hid hR
  clear hR
  obtain ⟨a, cp, rfl, hc⟩ := hr.shape
  have key : Calls Tryz.prog 94 #[.slice a ss.length cp, .func (.func 60) #[] #[]] w fun e w' => (∃ vc, e = .returned vc ∧ Fresh w w' vc R) ∧ Kept (fun _ => False) w w' := by
    go_enter Tryz.func94, Tryz.ntmps94
    go_wp2_with fail
    obtain ⟨K0, x1, x2⟩ := two_new w (Obj.cells #[Value.slice a ss.length cp] 46) (Obj.cells #[Value.slice none 0 0, Value.slice none 0 0, Value.bool false] 137)
    generalize (w.alloc (Obj.cells #[Value.slice a ss.length cp] 46)).alloc (Obj.cells #[Value.slice none 0 0, Value.slice none 0 0, Value.bool false] 137) = w0 at K0 x1 x2 ⊢
    have hw0 : Writes w0 (w.heap.size + 1) [] none := ⟨_, x2, Own.nil _ _ _⟩
    refine (textsWrite_c hw0 x1 (hr.kept K0 (fun _ _ h => h)) (fun k hk => ⟨by have := hgs k hk; omega, by simp, by have := hgs k hk; have := K0.size; omega⟩) hn (by simpa using hm)).mono ?_
    rintro e w1 ⟨rfl, g1, hw1, k1, hg1⟩
    obtain ⟨vo, q1, o1⟩ := hw1.ex
    rw [List.nil_append, ← HR.out] at o1
    have z0 : w1.cell? ⟨w.heap.size + 1, 0, none⟩ = some vo := cell_in q1
    have hl := lt_in q1
    have hs := lt_in x2
    obtain ⟨a1, c1, rfl, -, -⟩ := o1.shape
    have HO := Lib.hid o1
    clear q1 x1 x2 o1
    go_wp2
    go_ret
    refine ⟨⟨_, rfl, g1, HO.out, fun k hk => ?_⟩, K0.thn k1 (fun i hi => ?_)⟩
    · rcases hg1 k hk with h | h
      · cases h
      · omega
    · rcases hi with h | h
      · exact .inr (by omega)
      · cases h
  go_enter Tryz.func36, Tryz.ntmps36
  go_wp2_with fail
  refine key.mono ?_
  rintro e w1 ⟨⟨vc, rfl, hf⟩, hk⟩
  go_wp2
  go_ret
  exact ⟨⟨_, rfl, hf⟩, hk⟩

end Go.Proofs.YtanmfldgillodaaGreat
