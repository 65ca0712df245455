/- The codec reads whatever bytes: word, num, nums, flag, count: a value, or the panic of bytes that no call wrote. -/
import Derived.Test.YtanmfldgillodaaGreatPr
import Derived.Test.YtanmfldgillodaaGreatReadStr
set_option linter.unusedSimpArgs false
set_option linter.unusedVariables false
namespace Go.Proofs.YtanmfldgillodaaGreat
open Go.RowKit

/-- A codec that reads: what is left. -/
structure Rd (w : World) (c : Nat) (rest : List UInt8) (g : Option Nat) : Prop where
  ex : ∃ vi, w.heap[c]? = some (.cells #[.slice none 0 0, vi, .bool true] 137) ∧ Reads w 1 vi rest.length (rest.map bv) g
  ne : ∀ k, g = some k → k ≠ c
  small : rest.length ≤ 140737488351232

theorem Rd.kept {F : Nat → Prop} {w w' : World} {c : Nat} {rest : List UInt8} {g : Option Nat} (h : Rd w c rest g) (hk : Kept F w w') (hc : ¬ F c := by exact fun h => h) (hg : ∀ k, g = some k → ¬ F k := by exact fun _ _ h => h) : Rd w' c rest g := by
  obtain ⟨vi, h1, h2⟩ := h.ex
  exact ⟨⟨vi, (hk.block _ (lt_in h1) hc).trans h1, h2.kept hk hg⟩, h.ne, h.small⟩
theorem Rd.lt {w : World} {c : Nat} {rest : List UInt8} {g : Option Nat} (h : Rd w c rest g) : c < w.heap.size := by
  obtain ⟨vi, h1, -⟩ := h.ex
  exact lt_in h1

/-- A block is there, of so many cells. -/
def Was (w : World) (p : Nat) (t : TypeId) (n : Nat) : Prop := ∃ cur, w.heap[p]? = some (.cells cur t) ∧ cur.size = n
theorem Was.cast {w : World} {p : Nat} {t : TypeId} {n m : Nat} (h : Was w p t n) (e : n = m) : Was w p t m := e ▸ h

/-- A variable's block. -/
structure Blk (w : World) (p : Nat) (cur : Array Value) (t : TypeId) (c : Nat) (g : Option Nat) : Prop where
  heap : w.heap[p]? = some (.cells cur t)
  ne : p ≠ c
  neg : g ≠ some p

theorem Blk.kept {F : Nat → Prop} {w w' : World} {p : Nat} {cur : Array Value} {t : TypeId} {c : Nat} {g : Option Nat} (h : Blk w p cur t c g) (hk : Kept F w w') (hp : ¬ F p) : Blk w' p cur t c g :=
  ⟨(hk.block _ (lt_in h.heap) hp).trans h.heap, h.ne, h.neg⟩
theorem Blk.was {w : World} {p : Nat} {cur : Array Value} {t : TypeId} {c : Nat} {g : Option Nat} (h : Blk w p cur t c g) : Was w p t cur.size := ⟨cur, h.heap, rfl⟩

set_option maxRecDepth 100000 in
set_option maxHeartbeats 1600000 in
theorem wordG_c {w : World} {c : Nat} {bs : List UInt8} {g : Option Nat} (v0 : Int) (n : Nat) (hn8 : n ≤ 8) (h : Rd w c bs g) :
    Calls Tryz.prog 139 #[.pointer (some ⟨c, 0, none⟩), .int .u64 v0, .int .i64 n] w fun e w' => Kept (· = c) w w' ∧ ((∃ V r, pW n bs = some (V, r) ∧ e = .returned (.int .u64 (V : Nat)) ∧ Rd w' c r g) ∨ (pW n bs = none ∧ e = .panicked wrongP)) := by
  obtain ⟨vi, h1, h2⟩ := h.ex
  by_cases hl : n ≤ bs.length
  · have hb : bs.take n ++ bs.drop n = bs := List.take_append_drop n bs
    have hln : (bs.take n).length = n := by rw [List.length_take]; omega
    refine (wordRead_c (xs := bs.take n) (ys := bs.drop n) v0 h1 (by rw [hb]; exact h2) h.ne n (by rw [hln]) (by omega) (by rw [hb]; exact h.small)).mono ?_
    rintro e w1 ⟨rfl, vi1, h3, h4, k1⟩
    refine ⟨k1, .inl ⟨_, _, ?_, rfl, ⟨vi1, h3, h4⟩, h.ne, ?_⟩⟩
    · unfold pW
      rw [if_pos hl]
    · have := h.small
      rw [List.length_drop]
      omega
  · have hlt : (bs.length : Int) < (n : Int) := by omega
    have hp : pW n bs = none := by unfold pW; rw [if_neg hl]
    obtain ⟨a, cp, rfl, hc⟩ := h2.shape
    have c1 : w.cell? ⟨c, 1, none⟩ = some (.slice a bs.length cp) := cell_in h1
    have c2 : w.cell? ⟨c, 2, none⟩ = some (.bool true) := cell_in h1
    have hl := lt_in h1
    clear h1 h2
    go_enter Tryz.func139, Tryz.ntmps139
    go_wp2
    exact ⟨rfl, Kept.refl _ _, .inr ⟨hp, rfl⟩⟩

set_option maxRecDepth 100000 in
set_option maxHeartbeats 1600000 in
theorem numG_c {w : World} {c p o : Nat} {bs : List UInt8} {g : Option Nat} {cur : Array Value} {t : TypeId} (m : Int) (h : Rd w c bs g) (hb : Blk w p cur t c g) (hm : cur[o]? = some (.int .i64 m)) :
    Calls Tryz.prog 63 #[.pointer (some ⟨c, 0, none⟩), .pointer (some ⟨p, o, none⟩)] w fun e w' => Kept (fun k => k = c ∨ k = p) w w' ∧ ((∃ n r, pI bs = some (n, r) ∧ e = .returned (.tuple #[]) ∧ Rd w' c r g ∧ Blk w' p (cur.setIfInBounds o (.int .i64 n)) t c g) ∨ (pI bs = none ∧ e = .panicked wrongP ∧ Was w' p t cur.size)) := by
  have z0 : w.cell? ⟨p, o, none⟩ = some (.int .i64 m) := (cell_in hb.heap).trans hm
  have hlp := lt_in hb.heap
  obtain ⟨M, hM⟩ : ∃ M : Int, m % 18446744073709551616 = M := ⟨_, rfl⟩
  have hM' : IntKind.u64.wrap m = M := by rw [← hM]; simp [IntKind.wrap, IntKind.bits, IntKind.signed]
  go_enter Tryz.func63, Tryz.ntmps63
  go_wp2_with fail
  refine (wordG_c M 8 (by omega) h).mono ?_
  rintro e w1 ⟨k1, ⟨V, r, hp, rfl, H1⟩ | ⟨hp, rfl⟩⟩
  · have hb1 := hb.kept k1 hb.ne
    have z1 : w1.cell? ⟨p, o, none⟩ = some (.int .i64 m) := (cell_in hb1.heap).trans hm
    have f1 : w1.frozen? ⟨p, o, none⟩ = false := frozen_in hb1.heap
    have l1 := lt_in hb1.heap
    obtain ⟨N, hN⟩ : ∃ N, N = IntKind.i64.wrap (V : Int) := ⟨_, rfl⟩
    have hpI : pI bs = some (N, r) := by unfold pI; rw [hp, hN]; rfl
    have hN' := hN.symm
    clear z0 hM hM' hN
    go_wp2
    have ks : Kept (· = p) w1 (w1.setCell ⟨p, o, none⟩ (.int .i64 N)) := Kept.setCell _ _ _ rfl
    exact bodyPost_end (v := .tuple #[]) (by simp [results, Tryz.results63]) rfl ⟨(k1.mono (fun _ _ e => .inl e)).trans (ks.mono (fun _ _ e => .inr e)), .inl ⟨N, r, hpI, rfl, H1.kept ks (fun e => hb.ne e.symm) (fun k hk e => hb.neg (by rw [hk, e])), ⟨heap_setCell_same hb1.heap _, hb.ne, hb.neg⟩⟩⟩
  · have hpI : pI bs = none := by unfold pI; rw [hp]; rfl
    exact ⟨rfl, k1.mono (fun _ _ e => .inl e), .inr ⟨hpI, rfl, (hb.kept k1 hb.ne).was⟩⟩

theorem bind_eta {α : Type} (x : Option (List α × List UInt8)) : (x.bind fun z => some ([] ++ z.1, z.2)) = x := by cases x <;> rfl

/-- Numbers, put at places. -/
def fills : List Nat → List Int → Array Value → Array Value
  | o :: os, n :: ns, cur => fills os ns (cur.setIfInBounds o (.int .i64 n))
  | _, _, cur => cur

theorem fills_int : ∀ (os : List Nat) (ns : List Int) (cur : Array Value) (o : Nat), (∃ m, cur[o]? = some (.int .i64 m)) → ∃ m, (fills os ns cur)[o]? = some (.int .i64 m)
  | [], _, cur, o, h => by unfold fills; exact h
  | _ :: _, [], cur, o, h => by unfold fills; exact h
  | q :: os, n :: ns, cur, o, h => by
    unfold fills
    refine fills_int os ns _ o ?_
    obtain ⟨m, hm⟩ := h
    by_cases he : q = o
    · subst he
      have hl : q < cur.size := (Array.getElem?_eq_some_iff.1 hm).1
      exact ⟨n, Array.getElem?_setIfInBounds_self_of_lt hl⟩
    · exact ⟨m, by rw [Array.getElem?_setIfInBounds_ne he]; exact hm⟩

theorem fills_size : ∀ (os : List Nat) (ns : List Int) (cur : Array Value), (fills os ns cur).size = cur.size
  | [], _, cur => by unfold fills; rfl
  | _ :: _, [], cur => by unfold fills; rfl
  | q :: os, n :: ns, cur => by
    unfold fills
    rw [fills_size os ns _]
    simp

theorem fills_snoc : ∀ (os : List Nat) (ns : List Int) (cur : Array Value) (o : Nat) (n : Int), os.length = ns.length → fills (os ++ [o]) (ns ++ [n]) cur = (fills os ns cur).setIfInBounds o (.int .i64 n)
  | [], [], cur, o, n, _ => rfl
  | _ :: os, _ :: ns, cur, o, n, h => by
    simp only [List.cons_append, fills]
    exact fills_snoc os ns _ o n (by simpa using h)

set_option maxRecDepth 100000 in
set_option maxHeartbeats 1600000 in
theorem numsG_c {w : World} {c p : Nat} {bs : List UInt8} {g : Option Nat} {cur : Array Value} {t : TypeId} (os : List Nat) (h : Rd w c bs g) (hb : Blk w p cur t c g) {v : Value} {gp : Option Nat} (hr : Reads w 1 v os.length (os.map (fun o => Value.pointer (some ⟨p, o, none⟩))) gp) (hgp : ∀ k, gp = some k → k ≠ c ∧ k ≠ p) (hi : ∀ o ∈ os, ∃ m, cur[o]? = some (.int .i64 m)) (hl : os.length ≤ 100) :
    Calls Tryz.prog 65 #[.pointer (some ⟨c, 0, none⟩), v] w fun e w' => Kept (fun k => k = c ∨ k = p) w w' ∧ ((∃ ns r, pN pI os.length bs = some (ns, r) ∧ e = .returned (.tuple #[]) ∧ Rd w' c r g ∧ Blk w' p (fills os ns cur) t c g) ∨ (pN pI os.length bs = none ∧ e = .panicked wrongP ∧ Was w' p t cur.size)) := by
  obtain ⟨a, cp, rfl, hc⟩ := hr.shape
  go_enter Tryz.func65, Tryz.ntmps65
  go_wp2
  go_loopw [8] (fun i w' => ∃ (k : Nat) (ns : List Int) (r : List UInt8), k ≤ os.length ∧ i = .int .i64 k ∧ ns.length = k ∧ pN pI os.length bs = (pN pI (os.length - k) r).bind (fun z => some (ns ++ z.1, z.2)) ∧ Rd w' c r g ∧ Blk w' p (fills (os.take k) ns cur) t c g ∧ Kept (fun k => k = c ∨ k = p) w w') (fun i _ => os.length - (intOf i).toNat)
  case atStart => exact ⟨0, [], bs, by omega, rfl, rfl, by rw [Nat.sub_zero]; exact (bind_eta _).symm, h, by simpa [fills] using hb, Kept.refl _ _⟩
  case round =>
    obtain ⟨k, ns, r, hk, rfl, hns, hpar, h1, hb1, k1⟩ := hrel
    by_cases hk2 : k < os.length
    · have hki : (k : Int) < (os.length : Int) := by omega
      have r1 := hr.kept k1 (fun k hk e => by rcases e with e | e; exact (hgp k hk).1 e; exact (hgp k hk).2 e)
      obtain ⟨b, off, rfl, rfl, hcell⟩ := r1.one hk2
      obtain ⟨o, ho⟩ : ∃ o, o = os[k] := ⟨_, rfl⟩
      have hom : o ∈ os := by rw [ho]; exact List.getElem_mem hk2
      have htk : os.take (k + 1) = os.take k ++ [o] := by rw [ho]; exact List.take_succ_eq_append_getElem hk2
      rw [← ho] at hcell
      obtain ⟨m, hm⟩ := fills_int (os.take k) ns cur o (hi o hom)
      have hpar' : pN pI os.length bs = (pI r).bind (fun y => (pN pI (os.length - (k + 1)) y.2).bind fun z => some (ns ++ y.1 :: z.1, z.2)) := by
        rw [hpar, show os.length - k = (os.length - (k + 1)) + 1 by omega]
        simp only [pN]
        cases h0 : pI r with
        | none => rfl
        | some y =>
          simp only [Option.bind_some]
          cases h9 : pN pI (os.length - (k + 1)) y.2 with
          | none => rfl
          | some z => rfl
      have HT := Lib.hid htk
      have HP := Lib.hid hpar'
      have HN := Lib.hid hns
      clear ho hom htk hpar' hpar hns
      go_wp2_with fail
      refine (numG_c m h1 hb1 hm).mono ?_
      rintro e w2 ⟨k2, ⟨n, r2, hp, rfl, h2, hb2⟩ | ⟨hp, rfl, hw2⟩⟩
      · have hb3 : Blk w2 p (fills (os.take (k + 1)) (ns ++ [n]) cur) t c g := by
          rw [HT.out, fills_snoc _ _ _ _ _ (by rw [HN.out, List.length_take]; omega)]
          exact hb2
        have K2 := k1.trans k2
        have HB3 := Lib.hid hb3
        have HH2 := Lib.hid h2
        have HP2 : Hid (pN pI os.length bs = (pN pI (os.length - (k + 1)) r2).bind (fun z => some ((ns ++ [n]) ++ z.1, z.2))) := Lib.hid (by
          rw [HP.out, hp]
          simp)
        have HN2 : Hid ((ns ++ [n]).length = k + 1) := Lib.hid (by rw [List.length_append, HN.out]; rfl)
        clear hb2 hb3 h2 hp
        go_wp2
        exact ⟨⟨k + 1, ns ++ [n], r2, by omega, by simp, HN2.out, HP2.out, HH2.out, HB3.out, K2⟩, by simp [intOf]; omega⟩
      · exact ⟨rfl, k1.trans k2, .inr ⟨by rw [HP.out, hp]; rfl, rfl, hw2.cast (fills_size _ _ _)⟩⟩
    · obtain rfl : k = os.length := by omega
      go_wp2
      rw [List.take_length] at hb1
      rw [Nat.sub_self] at hpar
      refine bodyPost_end (v := .tuple #[]) (by simp [results, Tryz.results65]) rfl ⟨k1, .inl ⟨ns, r, ?_, rfl, h1, hb1⟩⟩
      rw [hpar]
      simp [pN]

set_option maxRecDepth 100000 in
set_option maxHeartbeats 1600000 in
theorem flagG_c {w : World} {c p o : Nat} {bs : List UInt8} {g : Option Nat} {cur : Array Value} {t : TypeId} (h : Rd w c bs g) (hb : Blk w p cur t c g) (hm : cur[o]? = some (.bool false)) :
    Calls Tryz.prog 142 #[.pointer (some ⟨c, 0, none⟩), .pointer (some ⟨p, o, none⟩)] w fun e w' => Kept (fun k => k = c ∨ k = p) w w' ∧ ((∃ b r, pF bs = some (b, r) ∧ e = .returned (.tuple #[]) ∧ Rd w' c r g ∧ Blk w' p (cur.setIfInBounds o (.bool b)) t c g) ∨ (pF bs = none ∧ e = .panicked wrongP ∧ Was w' p t cur.size)) := by
  have z0 : w.cell? ⟨p, o, none⟩ = some (.bool false) := (cell_in hb.heap).trans hm
  have hlp := lt_in hb.heap
  go_enter Tryz.func142, Tryz.ntmps142
  go_wp2_with fail
  refine (wordG_c 0 1 (by omega) h).mono ?_
  rintro e w1 ⟨k1, ⟨V, r, hp, rfl, H1⟩ | ⟨hp, rfl⟩⟩
  · have hb1 := hb.kept k1 hb.ne
    have z1 : w1.cell? ⟨p, o, none⟩ = some (.bool false) := (cell_in hb1.heap).trans hm
    have f1 : w1.frozen? ⟨p, o, none⟩ = false := frozen_in hb1.heap
    have l1 := lt_in hb1.heap
    have ks : ∀ b, Kept (· = p) w1 (w1.setCell ⟨p, o, none⟩ (.bool b)) := fun b => Kept.setCell _ _ _ rfl
    have hfin : ∀ b, pF bs = some (b, r) → Kept (fun k => k = c ∨ k = p) w (w1.setCell ⟨p, o, none⟩ (.bool b)) ∧ ((∃ b r, pF bs = some (b, r) ∧ (Sum.inl (Value.tuple #[]) : Value ⊕ Unit) = .inl (.tuple #[]) ∧ Rd (w1.setCell ⟨p, o, none⟩ (.bool b)) c r g ∧ Blk (w1.setCell ⟨p, o, none⟩ (.bool b)) p (cur.setIfInBounds o (.bool b)) t c g)) := fun b hpb =>
      ⟨(k1.mono (fun _ _ e => .inl e)).trans ((ks b).mono (fun _ _ e => .inr e)), b, r, hpb, rfl, H1.kept (ks b) (fun e => hb.ne e.symm) (fun k hk e => hb.neg (by rw [hk, e])), ⟨heap_setCell_same hb1.heap _, hb.ne, hb.neg⟩⟩
    have HB := Lib.hid hb1
    clear z0 hb1
    by_cases hV : V ≤ 1
    · have hVi : ¬ ((1 : Int) < (V : Int)) := by omega
      have hpF : pF bs = some (decide (V = 1), r) := by unfold pF; rw [hp]; simp [hV]
      have HF := Lib.hid hfin
      clear hp hfin
      obtain rfl | rfl : V = 0 ∨ V = 1 := by omega
      · go_wp2
        obtain ⟨q1, b, r', q2, -, q4, q5⟩ := HF.out false hpF
        rw [hpF] at q2
        simp at q2
        obtain ⟨rfl, rfl⟩ := q2
        exact bodyPost_end (v := .tuple #[]) (by simp [results, Tryz.results142]) rfl ⟨q1, .inl ⟨_, _, hpF, rfl, q4, q5⟩⟩
      · go_wp2
        obtain ⟨q1, b, r', q2, -, q4, q5⟩ := HF.out true hpF
        rw [hpF] at q2
        simp at q2
        obtain ⟨rfl, rfl⟩ := q2
        exact bodyPost_end (v := .tuple #[]) (by simp [results, Tryz.results142]) rfl ⟨q1, .inl ⟨_, _, hpF, rfl, q4, q5⟩⟩
    · have hVi : (1 : Int) < (V : Int) := by omega
      have hpF : pF bs = none := by unfold pF; rw [hp]; simp [hV]
      clear hfin
      go_wp2
      exact ⟨rfl, k1.mono (fun _ _ e => .inl e), .inr ⟨hpF, rfl, (hb.kept k1 hb.ne).was⟩⟩
  · have hpF : pF bs = none := by unfold pF; rw [hp]; rfl
    exact ⟨rfl, k1.mono (fun _ _ e => .inl e), .inr ⟨hpF, rfl, (hb.kept k1 hb.ne).was⟩⟩

set_option maxRecDepth 100000 in
set_option maxHeartbeats 1600000 in
theorem countG_c {w : World} {c : Nat} {bs : List UInt8} {g : Option Nat} (h : Rd w c bs g) :
    Calls Tryz.prog 140 #[.pointer (some ⟨c, 0, none⟩), .int .i64 0] w fun e w' => Kept (· = c) w w' ∧ ((∃ n r, pC bs = some (n, r) ∧ e = .returned (.int .i64 (n : Nat)) ∧ Rd w' c r g) ∨ (pC bs = none ∧ e = .panicked wrongP)) := by
  go_enter Tryz.func140, Tryz.ntmps140
  go_wp2_with fail
  refine (wordG_c 0 4 (by omega) h).mono ?_
  rintro e w1 ⟨k1, ⟨V, r, hp, rfl, H1⟩ | ⟨hp, rfl⟩⟩
  · obtain ⟨vi, h3, h4⟩ := H1.ex
    obtain ⟨a1, c1, rfl, -⟩ := h4.shape
    have hV : V < 4294967296 := by
      obtain ⟨a, ha, -, rfl⟩ := pW_some hp
      have := leN_lt a
      rw [ha] at this
      omega
    have e2 : IntKind.i64.wrap (V : Int) = (V : Int) := IntWalk.i64_in _ (by omega)
    have z1 : w1.cell? ⟨c, 1, none⟩ = some (.slice a1 r.length c1) := cell_in h3
    have z2 : w1.cell? ⟨c, 2, none⟩ = some (.bool true) := cell_in h3
    have hl := lt_in h3
    have H3 := Lib.hid h3
    clear h3 h4
    by_cases hgt : (r.length : Int) < (V : Int)
    · have hpC : pC bs = none := by
        unfold pC
        rw [hp, Option.bind_some, if_neg]
        show ¬ V ≤ r.length
        omega
      clear hp
      go_wp2
      exact ⟨rfl, k1, .inr ⟨hpC, rfl⟩⟩
    · have hpC : pC bs = some (V, r) := by
        unfold pC
        rw [hp, Option.bind_some, if_pos]
        show V ≤ r.length
        omega
      clear hp
      go_wp2
      go_ret
      exact ⟨k1, .inl ⟨V, r, hpC, rfl, H1⟩⟩
  · have hpC : pC bs = none := by unfold pC; rw [hp]; rfl
    exact ⟨rfl, k1, .inr ⟨hpC, rfl⟩⟩

end Go.Proofs.YtanmfldgillodaaGreat
