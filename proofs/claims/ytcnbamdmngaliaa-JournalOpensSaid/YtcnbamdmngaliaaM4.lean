/- Part 4 of the proof: Jd0, Jd1, Jd2, Je1, Jd3, RegionS, Codec, Unframe, Frame, Jps, Jw1, Jw2, Jd4, Je2, Jw3, Jw4, Jr1, Jp1, Jp2, Jp3, Jp4, Jp5, Jp6, Jp7, Jl1, Jrg, Jl2, Jl3, Jl4, Jl5, Jl6, Jl7, Jl8, Jop. -/
import Derived.OrdersHeld
import Derived.Test.YtcnbamdmngaliaaM3
open Nat renaming reduceAdd → zrA, reduceSub → zrS, reduceMul → zrM, reduceLT → zrL, reduceEqDiff → zrE, reduceLeDiff → zrD, reduceShiftRight → zrR, reduceMod → zrO
open Int renaming reduceLE → ziE, reduceLT → ziL, reduceToNat → ziN
section

set_option linter.unusedSimpArgs false
set_option linter.unusedVariables false
set_option maxRecDepth 10000
set_option maxHeartbeats 4000000
namespace Go.Proofs.Ytcnbamdmngaliaa.Ex
open Go
/-- What changes: the blocks of l, and v's. -/
structure Chg (l : List Nat) (v v' : AV) (H h' : AH) : Prop where
  n : H.n ≤ h'.n
  k : ∀ b, b < H.n → b ∉ l → Apart v b → h'.at b = H.at b ∧ Apart v' b
theorem Chg.refl {l : List Nat} {v : AV} {H : AH} : Chg l v v H H := ⟨Nat.le_refl _, fun b _ _ ha => ⟨rfl, ha⟩⟩
theorem Chg.ext {l : List Nat} {v : AV} {H h : AH} (e : Ext H.n H h) : Chg l v v H h := ⟨e.1, fun b hb _ ha => ⟨e.2 b hb, ha⟩⟩
theorem Chg.trans {l : List Nat} {v v1 v2 : AV} {H h h2 : AH} (a : Chg l v v1 H h) (b : Chg l v1 v2 h h2) : Chg l v v2 H h2 :=
  ⟨Nat.le_trans a.n b.n, fun k hk hl ha => let ⟨x, y⟩ := a.k k hk hl ha; let ⟨z, u⟩ := b.k k (Nat.lt_of_lt_of_le hk a.n) hl y; ⟨z.trans x, u⟩⟩
theorem Chg.put {l : List Nat} {v : AV} {H : AH} {d : Nat} (x : AB) (hd : d ∈ l) : Chg l v v H (H.put d x) :=
  ⟨by rw [n_put]; exact Nat.le_refl _, fun b _ hl ha => ⟨at_put_ne _ (fun e => hl (e ▸ hd)), ha⟩⟩
theorem Chg.mono {l m : List Nat} {v v' : AV} {H h' : AH} (c : Chg l v v' H h') (hm : ∀ b ∈ l, b ∈ m) : Chg m v v' H h' := ⟨c.n, fun b hb hl ha => c.k b hb (fun h => hl (hm b h)) ha⟩
theorem take_bL (xs : List UInt8) (k : Nat) : (bL xs).take k = bL (xs.take k) := by unfold bL; rw [List.map_take]
theorem len_bL (xs : List UInt8) : (bL xs).length = xs.length := by unfold bL; simp
theorem bL_append (xs ys : List UInt8) : bL (xs ++ ys) = bL xs ++ bL ys := by unfold bL; simp
theorem Els.bL {F : Nat → Prop} {h : AH} : ∀ {L : List (List AV)} {xs : List UInt8}, Els RByte F h L xs → L.flatten = bL xs
  | [], xs, h1 => by
    obtain rfl : xs = [] := List.eq_nil_of_length_eq_zero h1.1.symm
    rfl
  | a :: r, [], h1 => by have := h1.1; simp at this
  | a :: r, x :: xs, h1 => by
    have i1 := Els.bL (F := F) (h := h) (L := r) (xs := xs) ⟨by have := h1.1; simpa using this, fun i c y a b => h1.2 (i + 1) c y (by simpa using a) (by simpa using b)⟩
    obtain rfl := h1.2 0 a x rfl rfl
    rw [List.flatten_cons, i1]
    rfl
theorem els_bL {F : Nat → Prop} {h : AH} (xs : List UInt8) : Els RByte F h (xs.map fun x => [AV.lit (.int .u8 x.toNat)]) xs := by
  refine ⟨by simp, fun i c x h1 h2 => ?_⟩
  rw [List.getElem?_map, h2] at h1
  cases h1
  rfl
theorem bL_flat (xs : List UInt8) : (xs.map fun x => [AV.lit (.int .u8 x.toNat)]).flatten = bL xs := by
  induction xs with
  | nil => rfl
  | cons a r ih => rw [List.map_cons, List.flatten_cons, ih]; rfl
/-- Bytes read through a slice: where they stand. -/
theorem IsSl.bytesRow {F : Nat → Prop} {h : AH} {v : AV} {xs : List UInt8} (hs : IsSl RByte F h v xs) : (v = .lit (.slice none 0 0) ∧ xs = []) ∨ ∃ b off cap row, v = .sl b off xs.length cap ∧ F b ∧ getR h b = some row ∧ cut row off xs.length = some (bL xs) ∧ CapOk 1 v := by
  obtain ⟨L, h1, h2, hc, h3⟩ := hs.out
  have e0 : L.length = xs.length := h3.1
  rcases h1.2 with ⟨rfl, rfl⟩ | ⟨b, off, cap, row, rfl, h4, h5⟩
  · exact .inl ⟨rfl, List.eq_nil_of_length_eq_zero e0.symm⟩
  · refine .inr ⟨b, off, cap, row, by rw [e0], h2 _ _ _ _ rfl, h4, ?_, hc⟩
    rw [show L.length * RByte.z = xs.length from by show L.length * 1 = _; omega] at h5
    rw [h5, h3.bL]
theorem IsSl.mkBytes {F : Nat → Prop} {h : AH} {xs : List UInt8} {b off : Nat} {cap : Cap} {row : List AV} (hF : F b) (hr : getR h b = some row) (hc : cut row off xs.length = some (bL xs)) (hk : CapOk 1 (.sl b off xs.length cap)) : IsSl RByte F h (.sl b off xs.length cap) xs := by
  have hE := els_bL (F := F) (h := h) xs
  refine .mk (L := xs.map fun x => [AV.lit (.int .u8 x.toNat)]) ⟨by intro c hc; rw [List.mem_map] at hc; obtain ⟨x, _, rfl⟩ := hc; rfl, .inr ⟨b, off, cap, row, by simp, hr, ?_⟩⟩ (fun b' off' n' cap' e => by cases e; exact hF) hk hE
  rw [bL_flat]
  rw [show (xs.map fun x => [AV.lit (.int .u8 x.toNat)]).length * RByte.z = xs.length from by rw [List.length_map]; show xs.length * 1 = _; omega]
  exact hc
theorem IsSl.bytesOf {F : Nat → Prop} {h : AH} {v : AV} {xs : List UInt8} (hs : IsSl RByte F h v xs) : bytesOf h v = some xs := by
  rcases hs.bytesRow with ⟨rfl, rfl⟩ | ⟨b, off, cap, row, rfl, -, h4, h5, -⟩
  · rfl
  · show bytesAt h b off xs.length = _
    unfold bytesAt
    rw [h4]
    show (match cut row off xs.length with | some cs => bytesA cs | none => none) = _
    rw [h5]
    exact bytesA_bL xs
theorem IsSl.bytesF {F G : Nat → Prop} {h : AH} {v : AV} {xs : List UInt8} (hs : IsSl RByte F h v xs) (hv : SlF G v) : IsSl RByte G h v xs := by
  obtain ⟨L, f1, f2, f3, f4⟩ := hs.out
  exact .mk f1 hv f3 ⟨f4.1, fun i c x h1 h2 => f4.2 i c x h1 h2⟩
theorem IsSl.bytesNil {F : Nat → Prop} {h : AH} : IsSl RByte F h (.lit (.slice none 0 0)) [] := .mk (L := []) ⟨by simp, .inl ⟨rfl, rfl⟩⟩ (fun b off n cap e => by cases e) (fun b off n cap e => by cases e) .nil
/-- Bytes of a row of the run's own: it grows, or its end was cut off. -/
def VwB (n0 : Nat) (h : AH) (v : AV) (xs : List UInt8) : Prop :=
  (v = .lit (.slice none 0 0) ∧ xs = []) ∨ ∃ p ys cap, v = .sl p 0 xs.length cap ∧ n0 ≤ p ∧ h.at p = some (.cells (bL ys) 5) ∧ ys.take xs.length = xs ∧ (cap = .un 1 ∧ ys = xs ∨ cap = .kn xs.length)
theorem VwB.slN {n0 : Nat} {h : AH} {v : AV} {xs : List UInt8} (ho : VwB n0 h v xs) : SlN v xs.length := by
  rcases ho with ⟨rfl, rfl⟩ | ⟨p, ys, cap, rfl, -⟩
  · exact .inl ⟨rfl, rfl⟩
  · exact .inr ⟨_, _, _, rfl⟩
theorem VwB.isSl {n0 : Nat} {h : AH} {v : AV} {xs : List UInt8} (ho : VwB n0 h v xs) : Ex.isSl v = true := ho.slN.isSl
theorem VwB.lenD {n0 : Nat} {h : AH} {v : AV} {xs : List UInt8} (ho : VwB n0 h v xs) : Ex.lenD v = xs.length := ho.slN.lenD
theorem VwB.one {n0 : Nat} {h : AH} {v : AV} {xs : List UInt8} (ho : VwB n0 h v xs) : v.one = true := ho.slN.one
theorem VwB.nil {n0 : Nat} {h : AH} : VwB n0 h (.lit (.slice none 0 0)) [] := .inl ⟨rfl, rfl⟩
theorem VwB.toSl {n0 : Nat} {h : AH} {v : AV} {xs : List UInt8} {F : Nat → Prop} (ho : VwB n0 h v xs) (hF : SlF F v) : IsSl RByte F h v xs := by
  rcases ho with ⟨rfl, rfl⟩ | ⟨p, ys, cap, rfl, hp, hat, ht, hc⟩
  · exact .bytesNil
  · have hl : xs.length ≤ ys.length := by have := congrArg List.length ht; rw [List.length_take] at this; omega
    refine .mkBytes (hF _ _ _ _ rfl) (row := bL ys) (by unfold getR; rw [hat]) ?_ fun b off n cap' e => ?_
    · unfold cut
      rw [if_pos (by rw [len_bL]; omega), List.drop_zero, take_bL, ht]
    · cases e
      rcases hc with ⟨rfl, -⟩ | rfl
      · rfl
      · exact Nat.le_refl _
theorem VwB.ofOwn {n0 : Nat} {h : AH} {v : AV} {xs : List UInt8} (ho : OwnB n0 h v xs) : VwB n0 h v xs := by
  obtain ⟨L, h1, h2⟩ := ho
  have e0 := h2.1
  rcases h1.2 with ⟨rfl, rfl⟩ | ⟨p, rfl, hp, hat⟩
  · exact .inl ⟨rfl, List.eq_nil_of_length_eq_zero e0.symm⟩
  · exact .inr ⟨p, xs, .un 1, by rw [e0]; rfl, hp, by rw [hat, h2.bL], List.take_length, .inl ⟨rfl, rfl⟩⟩
theorem OwnB.mk {n0 p : Nat} {h : AH} {xs : List UInt8} (hp : n0 ≤ p) (hat : h.at p = some (.cells (bL xs) 5)) : OwnB n0 h (.sl p 0 xs.length (.un 1)) xs := by
  refine ⟨xs.map fun x => [AV.lit (.int .u8 x.toNat)], ⟨by intro c hc; rw [List.mem_map] at hc; obtain ⟨x, _, rfl⟩ := hc; rfl, .inr ⟨p, by rw [List.length_map]; rfl, hp, by rw [bL_flat]; exact hat⟩⟩, els_bL xs⟩
theorem VwB.lift {n0 : Nat} {h h' : AH} {v : AV} {xs : List UInt8} (ho : VwB n0 h v xs) (hk : ∀ b off n cap, v = .sl b off n cap → h'.at b = h.at b) : VwB n0 h' v xs := by
  rcases ho with ho | ⟨p, ys, cap, rfl, hp, hat, ht⟩
  · exact .inl ho
  · exact .inr ⟨p, ys, cap, rfl, hp, by rw [hk _ _ _ _ rfl, hat], ht⟩
theorem VwB.lt {n0 : Nat} {h : AH} {v : AV} {xs : List UInt8} (ho : VwB n0 h v xs) : ∀ b off n cap, v = .sl b off n cap → n0 ≤ b ∧ b < h.n := fun b off n cap e => by
  rcases ho with ⟨rfl, -⟩ | ⟨p, ys, cap, rfl, hp, hat, ht⟩
  · cases e
  · cases e
    exact ⟨hp, at_lt hat⟩
theorem VwB.ext {n0 : Nat} {h h' : AH} {v : AV} {xs : List UInt8} (ho : VwB n0 h v xs) (he : Ext h.n h h') : VwB n0 h' v xs := ho.lift fun b off n cap e => he.2 b (ho.lt b off n cap e).2
theorem VwB.mono {n0 n1 : Nat} {h : AH} {v : AV} {xs : List UInt8} (ho : VwB n0 h v xs) (hn : n1 ≤ n0) : VwB n1 h v xs := by
  rcases ho with ho | ⟨p, ys, cap, e, hp, r⟩
  · exact .inl ho
  · exact .inr ⟨p, ys, cap, e, Nat.le_trans hn hp, r⟩
/-- A block of another type is another one. -/
theorem VwB.sep {n0 b e : Nat} {h : AH} {v : AV} {xs : List UInt8} {l : List AV} (ho : VwB n0 h v xs) (hb : h.at b = some (.cells l e)) (hne : e ≠ 5) : Apart v b := fun off n cap ev => by
  rcases ho with ⟨rfl, -⟩ | ⟨p, ys, cap, rfl, hp, hat, ht⟩
  · cases ev
  · cases ev
    rw [hat] at hb
    cases hb
    exact hne rfl
theorem VwB.app {n0 : Nat} {H : AH} {v x : AV} {xs ys : List UInt8} {F : Nat → Prop} (ho : VwB n0 H v xs) (hx : IsSl RByte F H x ys) (hl : xs.length + ys.length ≤ 140737488355328) (hn0 : n0 ≤ H.n) :
    ∃ s' h', appendA (tabOf Try.prog NT0) H 22 22 v x = some (s', h') ∧ VwB n0 h' s' (xs ++ ys) ∧ Chg [] v s' H h' ∧ Ext n0 H h' := by
  obtain ⟨L, h1, h2, hc, h3⟩ := hx.out
  have hM : Els RByte (fun b => False ∧ Apart v b) H L ys := ⟨h3.1, fun i c x h1 h2 => h3.2 i c x h1 h2⟩
  have viaOwn : OwnB n0 H v xs → ∃ s' h', appendA (tabOf Try.prog NT0) H 22 22 v x = some (s', h') ∧ VwB n0 h' s' (xs ++ ys) ∧ Chg [] v s' H h' ∧ Ext n0 H h' := fun ho => by
    obtain ⟨s', h', a1, a2, a3, a4⟩ := ho.append (T := tabOf Try.prog NT0) (t := 22) (tx := 22) (by kernel_rfl) (by kernel_rfl) (by kernel_rfl) (zv := .lit (.int .u8 0)) (by kernel_rfl) (by' := 1) (by kernel_rfl) rfl (by decide) (by decide) h1.src h1.len hM (by omega) (by omega) hn0
    exact ⟨s', h', a1, .ofOwn a2, ⟨a3.1, fun b hb _ ha => a4 b hb ha⟩, a3⟩
  rcases ho with ⟨rfl, rfl⟩ | ⟨p, zs, cap, rfl, hp, hat, ht, ⟨rfl, rfl⟩ | rfl⟩
  · exact viaOwn .nil
  · exact viaOwn (.mk hp hat)
  · have e0 : L.length = ys.length := h3.1
    have hlz : xs.length ≤ zs.length := by have := congrArg List.length ht; rw [List.length_take] at this; omega
    have hml := flat_len h1.1
    have hz1 : RByte.z = 1 := rfl
    have hA : appendA (tabOf Try.prog NT0) H 22 22 (.sl p 0 xs.length (.kn xs.length)) x = appendB H 5 1 ys.length (bL ys) (.sl p 0 xs.length (.kn xs.length)) := by
      have k1 : und (tabOf Try.prog NT0) 22 = some (.slice 5) := by kernel_rfl
      have hz : sizeT (tabOf Try.prog NT0) 5 = some 1 := by kernel_rfl
      have hzv : zeroT (tabOf Try.prog NT0) 5 = some (.lit (.int .u8 0)) := by kernel_rfl
      have hb : bytesT (tabOf Try.prog NT0) 5 = some 1 := by kernel_rfl
      simp only [sizeT, zeroT, bytesT, Option.map_eq_some_iff] at hz hzv hb
      obtain ⟨i, hi, e1⟩ := hz
      obtain ⟨i2, hi2, e2⟩ := hzv
      obtain ⟨i3, hi3, e3⟩ := hb
      rw [hi] at hi2 hi3
      obtain rfl := Option.some.inj hi2
      obtain rfl := Option.some.inj hi3
      unfold appendA
      rw [k1]
      have hl0 : lenA (.sl p 0 xs.length (.kn xs.length)) = some xs.length := rfl
      simp only [hi, h1.len, hl0, e0, e1, e3, e2]
      rw [show (isSrcD 1 (.slice 5) && Nat.blt 0 1 && Nat.ble 1 200 && Nat.beq (AV.lit (.int .u8 0)).cells.length 1 && Nat.ble (xs.length + ys.length) 4611686018427387904 && Nat.ble ((xs.length + ys.length) * 1) 140737488355328) = true by
        simp only [Bool.and_eq_true, Nat.ble_eq, Nat.blt_eq]
        exact ⟨⟨⟨⟨⟨rfl, by decide⟩, by decide⟩, rfl⟩, by omega⟩, by omega⟩]
      have hsrc := h1.src
      rw [hz1] at hsrc
      simp only [cond_true, hsrc]
      rw [h3.bL, show (Nat.beq (bL ys).length (ys.length * 1) && (bL ys).all AV.one) = true by
        rw [len_bL, Nat.mul_one, Nat.beq_refl]
        simp [bL, AV.one]]
      rfl
    rw [hA]
    unfold appendB
    cases hm : Nat.beq ys.length 0 with
    | true =>
      obtain rfl : ys = [] := List.eq_nil_of_length_eq_zero (Nat.eq_of_beq_eq_true hm)
      exact ⟨_, _, rfl, .inr ⟨p, zs, .kn xs.length, by rw [List.append_nil], hp, hat, by rw [List.append_nil]; exact ht, .inr (by rw [List.append_nil])⟩, .refl, Ext.refl _ _⟩
    | false =>
      have hne : ys.length ≠ 0 := fun h => by rw [h] at hm; cases hm
      have hb : Nat.ble (xs.length + ys.length) xs.length = false := by
        rw [Bool.eq_false_iff]
        intro hh
        have := Nat.ble_eq.mp hh
        omega
      have hg : getR H p = some (bL zs) := by unfold getR; rw [hat]
      have hc : cut (bL zs) 0 (xs.length * 1) = some (bL xs) := by
        unfold cut
        rw [if_pos (by rw [len_bL]; omega), List.drop_zero, Nat.mul_one, take_bL, ht]
      simp only [cond_false, hb, hg, hc]
      refine ⟨_, _, rfl, .inr ⟨H.n, xs ++ ys, .un 1, by rw [List.length_append], hn0, by rw [at_push_n, bL_append], List.take_length, .inl ⟨rfl, rfl⟩⟩, ⟨by rw [n_push]; omega, fun b hb _ ha => ⟨at_push_lt _ hb, fun off n cap e => by cases e; omega⟩⟩, (Ext.refl _ _).push _ hn0⟩
/-! Slices of three indexes, of which two are the same. -/
def sl3 (k : Nat) : AV → AV
  | .sl b off _ _ => .sl b off k (.kn k)
  | v => v
def slM3 (h : AH) (v : AV) (hi mx : Int) (r : AR) : AR := if 0 ≤ hi ∧ hi = mx ∧ hi ≤ (lenD v : Int) then some (.val (sl3 hi.toNat v), h) else r
theorem VwB.sl3 {n0 k : Nat} {h : AH} {v : AV} {xs : List UInt8} (ho : VwB n0 h v xs) (hk : k ≤ xs.length) : VwB n0 h (sl3 k v) (xs.take k) ∧ ∀ b, Apart v b → Apart (Ex.sl3 k v) b := by
  have hl : (xs.take k).length = k := by rw [List.length_take]; omega
  rcases ho with ⟨rfl, rfl⟩ | ⟨p, ys, cap, rfl, hp, hat, ht, hc⟩
  · exact ⟨.inl ⟨rfl, by simp⟩, fun b ha => ha⟩
  · refine ⟨.inr ⟨p, ys, .kn k, by rw [hl]; rfl, hp, hat, ?_, .inr (by rw [hl])⟩, fun b ha off n cap' e => ?_⟩
    · rw [hl]
      conv => rhs; rw [← ht, List.take_take, Nat.min_eq_left hk]
    · have e' : AV.sl p 0 k (.kn k) = .sl b off n cap' := e
      cases e'
      exact ha _ _ _ rfl
section
variable {P : Program} {T : TT} {t : TM} {h : AH} {d : Option Tmp} {ty : TypeId} {ps : String} {af : Array Edge} {g : Option (Nat × Bool)} {N : NT}
theorem nil_slice3 {e : TypeId} (hP : P.underlying e = some (.slice ty)) (hi' : (P.info? ty).isSome = true) :
    pur P (do let x ← Instr.sliceAt e (.slice none 0 0) none (some (.int .i64 0)) (some (.int .i64 0)); pure (Next.value x)) = some (.ok (.value (.slice none 0 0))) := by
  obtain ⟨ii, hii⟩ := Option.isSome_iff_exists.1 hi'
  have u1 : ∀ {α β : Type} (f : TypeDesc → Sem α) (g : α → Sem β), pur P ((underlying e >>= f) >>= g) = pur P (f (.slice ty) >>= g) := fun f g => by
    show pur P (((match P.underlying e with | some d => pure d | none => stuck "no such type") >>= f) >>= g) = _
    rw [hP]
    rfl
  have u2 : ∀ {α β : Type} (f : Nat → Sem α) (g : α → Sem β), pur P ((sizeOf ty >>= f) >>= g) = pur P (f ii.size >>= g) := fun f g => by
    show pur P (((((match P.info? ty with | some i => pure i | none => stuck "no such type") >>= fun i => pure i.size)) >>= f) >>= g) = _
    rw [hii]
    rfl
  unfold Instr.sliceAt
  rw [u1]
  show pur P (Instr.slice e (.slice none 0 0) none (some (.int .i64 0)) (some (.int .i64 0)) >>= _) = _
  unfold Instr.slice
  rw [u1]
  exact u2 _ _
theorem nilSl3_lit {o : Oper} {e el i : Nat} {hi mx : Operand} (hu : und (tabOf P N) e = some (.slice el)) {z : Nat} (hel : sizeT (tabOf P N) el = some z) (h0 : 0 < z) (hv : t.get i = .lit (.slice none 0 0))
    (hh : evalA t hi = some (.lit (.int .i64 0))) (hm : evalA t mx = some (.lit (.int .i64 0))) (ho : o.op = .slice e (.tmp i) none (some hi) (some mx)) :
    litOp P o t = some (.val (.lit (.slice none 0 0))) := by
  obtain ⟨d, op, ty, ps, af, g⟩ := o
  simp only at ho
  subst ho
  have hinfo : (P.info? el).isSome = true := by
    cases hq : P.info? el with
    | some ii => rfl
    | none =>
      simp only [sizeT, Option.map_eq_some_iff, tabOf] at hel
      obtain ⟨ti, h1, h2⟩ := hel
      cases hN : N.has el with
      | false => rw [hN] at h1; cases h1
      | true =>
        rw [hN] at h1
        simp only [cond_true, Option.some.injEq] at h1
        rw [← h1] at h2
        simp only [tiOf, hq] at h2
        simp at h2
        omega
  have e0 : litEnv t (.tmp i) = .slice none 0 0 := by simp [litEnv, ev_tmp, hv, toVal]
  have e1 : litEnv t hi = .int .i64 0 := by simp [litEnv, hh, toVal]
  have e2 : litEnv t mx = .int .i64 0 := by simp [litEnv, hm, toVal]
  have key := nil_slice3 (P := P) (und_tab_sl hu) hinfo
  unfold litOp
  rw [if_pos]
  · show ofPR (pur P (do let x ← Instr.sliceAt e (litEnv t (.tmp i)) none (some (litEnv t hi)) (some (litEnv t mx)); pure (Next.value x))) = _
    rw [e0, e1, e2, key]
    rfl
  · simp [notSelect, Op.operands, litAll, ev_tmp, hv, toVal, hh, hm]
theorem a_sl3 {e i : Nat} {hi mx : Operand} (hs : isSl (t.get i) = true) (hT : szOk (tabOf P N) e = true) (hc : CapOk (szE (tabOf P N) e) (t.get i)) :
    aop P (tabOf P N) ⟨d, .slice e (.tmp i) none (some hi) (some mx), ty, ps, af, g⟩ t h = (match evalA t hi, evalA t mx with
      | some (.lit (.int .i64 n)), some (.lit (.int .i64 m)) => slM3 h (t.get i) n m (aSlR P (tabOf P N) ⟨d, .slice e (.tmp i) none (some hi) (some mx), ty, ps, af, g⟩ t h e (.tmp i) none (some hi) (some mx))
      | _, _ => aSlR P (tabOf P N) ⟨d, .slice e (.tmp i) none (some hi) (some mx), ty, ps, af, g⟩ t h e (.tmp i) none (some hi) (some mx)) := by
  have h0 : aop P (tabOf P N) ⟨d, .slice e (.tmp i) none (some hi) (some mx), ty, ps, af, g⟩ t h = aSlice P (tabOf P N) ⟨d, .slice e (.tmp i) none (some hi) (some mx), ty, ps, af, g⟩ t h e (.tmp i) none (some hi) (some mx) := rfl
  rw [h0]
  split
  · rename_i n k hn hk
    unfold slM3
    split
    · rename_i hb
      obtain ⟨hb1, hb2, hb3⟩ := hb
      subst hb2
      obtain ⟨el, z, hu, hz, hzz, h0⟩ := szOk_out hT
      obtain ⟨m, ⟨hv, hm⟩ | ⟨b, off, cap, hv⟩⟩ := SlN.of hs
      · have hl : (lenD (t.get i)) = 0 := by rw [hv]; rfl
        obtain rfl : n = 0 := by omega
        unfold aSlice orLit
        rw [nilSl3_lit hu hz h0 hv hn hk rfl, hv]
        rfl
      · have hl : (lenD (t.get i)) = m := by rw [hv]; rfl
        have hcap := hc b off m cap hv
        rw [hzz] at hcap
        unfold aSlice orLit
        rw [sl_none (i := i) (by simp [Op.operands]) hv]
        simp only [ev_tmp, optNat, hn, hk, natA_int, if_pos hb1, Option.map_some]
        rw [hv]
        unfold aSlice1
        rw [hu]
        simp only [hz]
        have hbd : boundsA m cap none (some n.toNat) (some n.toNat) = some (0, n.toNat, .kn n.toNat) := by
          unfold boundsA
          simp only [Option.getD_none, capGe_ok (show n.toNat ≤ m by omega) hcap]
          simp
        rw [hbd]
        show (bif capFits z (.kn n.toNat) then _ else _) = _
        simp [capFits, sl3]
    · rfl
  · rfl
end
end Go.Proofs.Ytcnbamdmngaliaa.Ex
end

section

set_option linter.unusedSimpArgs false
set_option linter.unusedVariables false
set_option maxRecDepth 10000
set_option maxHeartbeats 4000000
namespace Go.Proofs.Ytcnbamdmngaliaa.Ex
open Go
/-- A disk: its size, base, bytes (a slice), synced, limit. -/
def dkC (size base : Int) (v : AV) (synced limit : Int) : AB := .cells [.lit (.int .i64 size), .lit (.int .i64 base), v, .lit (.int .i64 synced), .lit (.int .i64 limit)] 55
theorem made_x {H : AH} {d : Nat} {size base synced limit : Int} {v : AV} (hd : H.at d = some (dkC size base v synced limit)) (h0 : 0 < size) :
    WC Try.prog (tabOf Try.prog NT0) S0 23 [.ptr d 0] H fun r h' => h' = H ∧ r = .lit (.bool true) := by
  refine WC_fn Try.func23 rfl rfl ?_
  unfold dkC at hd
  have L := ld_at (T := tabOf Try.prog NT0) hd
  have l := at_lt hd
  have h1 : ((0 : Int) < size) = True := by simp only [eq_iff_iff, iff_true]; omega
  simp only [core, zrA, zrS, zrM, zrL, zrE, reduceCtorEq, zrD, ziE, ziL, ziN, Try.ntmps23, L, l, h1]
theorem end_x {H : AH} {d n : Nat} {size base synced limit : Int} {v : AV} (hd : H.at d = some (dkC size base v synced limit)) (h0 : 0 < size) (hv : isSl v = true) (hn : lenD v = n) (hb : 0 ≤ base ∧ base ≤ 4611686018427387904) (hl : n ≤ 1000000000) :
    WC Try.prog (tabOf Try.prog NT0) S0 24 [.ptr d 0] H fun r h' => h' = H ∧ r = .lit (.int .i64 (base + n)) := by
  refine WC_fn Try.func24 rfl rfl ?_
  have hd' := hd
  unfold dkC at hd
  have L := ld_at (T := tabOf Try.prog NT0) hd
  have l := at_lt hd
  have hw : IntKind.i64.wrap (base + (n : Int)) = base + n := wrap_in (by omega) (by omega)
  simp only [core, zrA, zrS, zrM, zrL, zrE, reduceCtorEq, zrD, ziE, ziL, ziN, Try.ntmps24]
  refine (made_x hd' h0).mono ?_
  rintro _ h1 ⟨rfl, rfl⟩
  simp only [core, zrA, zrS, zrM, zrL, zrE, reduceCtorEq, zrD, ziE, ziL, ziN]
  rw [WB_regionD [0, 1, 2, 3, 4, 5, 6, 7, 8, 9, 10] 1328253880591971339557501110939813888 (by kernel_rfl)]
  repeat ((with_reducible refine WDM_cons ?_; simp only [dw1]; try simp only [dw2, zrA, zrM, zrR, zrO, zrE]); simp only [core, zrA, zrS, zrM, zrL, zrE, reduceCtorEq, zrD, ziE, ziL, ziN, cored, L, l, hv, hn, hw])
theorem in_x {H : AH} {d : Nat} {size base synced limit at_ to : Int} {v : AV} (hd : H.at d = some (dkC size base v synced limit)) :
    WC Try.prog (tabOf Try.prog NT0) S0 62 [.ptr d 0, .lit (.int .i64 at_), .lit (.int .i64 to)] H fun r h' => h' = H ∧ r = .lit (.bool (decide (base ≤ at_) && decide (at_ ≤ to))) := by
  refine WC_fn Try.func62 rfl rfl ?_
  unfold dkC at hd
  have L := ld_at (T := tabOf Try.prog NT0) hd
  have l := at_lt hd
  by_cases c1 : base ≤ at_
  · by_cases c2 : at_ ≤ to
    · simp only [core, zrA, zrS, zrM, zrL, zrE, reduceCtorEq, zrD, ziE, ziL, ziN, Try.ntmps62, L, l, c1, c2]
      try simp
    · simp only [core, zrA, zrS, zrM, zrL, zrE, reduceCtorEq, zrD, ziE, ziL, ziN, Try.ntmps62, L, l, c1, c2]
      try simp
  · simp only [core, zrA, zrS, zrM, zrL, zrE, reduceCtorEq, zrD, ziE, ziL, ziN, Try.ntmps62, L, l, c1, aundef]
    try simp
theorem frozen_x {H : AH} {d n : Nat} {size base synced limit : Int} {v : AV} (hd : H.at d = some (dkC size base v synced limit)) (h0 : 0 < size) (hv : isSl v = true) (hn : lenD v = n) (hb : 0 ≤ base ∧ base ≤ 4611686018427387904) (hl : n ≤ 1000000000) :
    WC Try.prog (tabOf Try.prog NT0) S0 26 [.ptr d 0] H fun r h' => h' = H ∧ r = .lit (.bool (decide (0 ≤ limit) && decide (limit < base + n))) := by
  refine WC_fn Try.func26 rfl rfl ?_
  have hd' := hd
  unfold dkC at hd
  have L := ld_at (T := tabOf Try.prog NT0) hd
  have l := at_lt hd
  simp only [core, zrA, zrS, zrM, zrL, zrE, reduceCtorEq, zrD, ziE, ziL, ziN, Try.ntmps26]
  rw [WB_regionD [0, 1, 2, 3, 4, 5, 6, 7, 8, 9, 10, 12, 13, 14, 15, 11, 16, 17, 18] 2348535863524654754478830198983591111358129086453084853486620925027284134042668365335700141852607154643009536 (by kernel_rfl)]
  repeat ((with_reducible refine WDM_cons ?_; simp only [dw1]; try simp only [dw2, zrA, zrM, zrR, zrO, zrE]); simp only [core, zrA, zrS, zrM, zrL, zrE, reduceCtorEq, zrD, ziE, ziL, ziN, cored, L, l])
  refine (made_x hd' h0).mono ?_
  rintro _ h1 ⟨e1, rfl⟩
  replace e1 := e1.symm
  subst e1
  by_cases c1 : 0 ≤ limit
  · repeat ((with_reducible refine WDM_cons ?_; simp only [dw1]; try simp only [dw2, zrA, zrM, zrR, zrO, zrE]); simp only [core, zrA, zrS, zrM, zrL, zrE, reduceCtorEq, zrD, ziE, ziL, ziN, cored, L, l, c1, aundef])
    refine (end_x hd' h0 hv hn hb hl).mono ?_
    rintro _ h1 ⟨e1, rfl⟩
    replace e1 := e1.symm
    subst e1
    repeat ((with_reducible refine WDM_cons ?_; simp only [dw1]; try simp only [dw2, zrA, zrM, zrR, zrO, zrE]); simp only [core, zrA, zrS, zrM, zrL, zrE, reduceCtorEq, zrD, ziE, ziL, ziN, cored, L, l, c1, aundef])
    try simp
  · repeat ((with_reducible refine WDM_cons ?_; simp only [dw1]; try simp only [dw2, zrA, zrM, zrR, zrO, zrE]); simp only [core, zrA, zrS, zrM, zrL, zrE, reduceCtorEq, zrD, ziE, ziL, ziN, cored, L, l, c1, aundef])
    try simp
theorem base_x {H : AH} {d : Nat} {size base synced limit : Int} {v : AV} (hd : H.at d = some (dkC size base v synced limit)) (h0 : 0 < size) :
    WC Try.prog (tabOf Try.prog NT0) S0 45 [.ptr d 0] H fun r h' => h' = H ∧ r = .lit (.int .i64 base) := by
  refine WC_fn Try.func45 rfl rfl ?_
  have hd' := hd
  unfold dkC at hd
  have L := ld_at (T := tabOf Try.prog NT0) hd
  have l := at_lt hd
  simp only [core, zrA, zrS, zrM, zrL, zrE, reduceCtorEq, zrD, ziE, ziL, ziN, Try.ntmps45]
  refine (made_x hd' h0).mono ?_
  rintro _ h1 ⟨e1, rfl⟩
  replace e1 := e1.symm
  subst e1
  simp only [core, zrA, zrS, zrM, zrL, zrE, reduceCtorEq, zrD, ziE, ziL, ziN, L, l]
theorem synced_x {H : AH} {d : Nat} {size base synced limit : Int} {v : AV} (hd : H.at d = some (dkC size base v synced limit)) (h0 : 0 < size) :
    WC Try.prog (tabOf Try.prog NT0) S0 46 [.ptr d 0] H fun r h' => h' = H ∧ r = .lit (.int .i64 synced) := by
  refine WC_fn Try.func46 rfl rfl ?_
  have hd' := hd
  unfold dkC at hd
  have L := ld_at (T := tabOf Try.prog NT0) hd
  have l := at_lt hd
  simp only [core, zrA, zrS, zrM, zrL, zrE, reduceCtorEq, zrD, ziE, ziL, ziN, Try.ntmps46]
  refine (made_x hd' h0).mono ?_
  rintro _ h1 ⟨e1, rfl⟩
  replace e1 := e1.symm
  subst e1
  simp only [core, zrA, zrS, zrM, zrL, zrE, reduceCtorEq, zrD, ziE, ziL, ziN, L, l]
/-- One block is another one; the others are as they were. -/
structure Mod (d : Nat) (x : AB) (H h' : AH) : Prop where
  n : h'.n = H.n
  at_ : h'.at d = some x
  ne : ∀ b, b ≠ d → h'.at b = H.at b
theorem Mod.refl {d : Nat} {x : AB} {H : AH} (hd : H.at d = some x) : Mod d x H H := ⟨rfl, hd, fun _ _ => rfl⟩
theorem Mod.put {d : Nat} {y : AB} {H : AH} (x : AB) (hd : H.at d = some y) : Mod d x H (H.put d x) := ⟨n_put _ _ _, at_put (at_lt hd), fun b hb => at_put_ne _ (Ne.symm hb)⟩
theorem sync_x {H : AH} {d n : Nat} {size base synced limit : Int} {v : AV} (hd : H.at d = some (dkC size base v synced limit)) (h0 : 0 < size) (hv : isSl v = true) (hn : lenD v = n) (hb : 0 ≤ base ∧ base ≤ 4611686018427387904) (hl : n ≤ 1000000000) :
    WC Try.prog (tabOf Try.prog NT0) S0 11 [.ptr d 0] H fun r h' => r = .tup [] ∧ Mod d (dkC size base v (if 0 ≤ limit ∧ limit < base + n then synced else base + n) limit) H h' := by
  refine WC_fn Try.func11 rfl rfl ?_
  have hd' := hd
  unfold dkC at hd
  have L := ld_at (T := tabOf Try.prog NT0) hd
  have l := at_lt hd
  have hz := hv
  simp only [core, zrA, zrS, zrM, zrL, zrE, reduceCtorEq, zrD, ziE, ziL, ziN, Try.ntmps11]
  refine (made_x hd' h0).mono ?_
  rintro _ h1 ⟨e1, rfl⟩
  replace e1 := e1.symm
  subst e1
  simp only [core, zrA, zrS, zrM, zrL, zrE, reduceCtorEq, zrD, ziE, ziL, ziN]
  refine (frozen_x hd' h0 hv hn hb hl).mono ?_
  rintro _ h1 ⟨e1, rfl⟩
  replace e1 := e1.symm
  subst e1
  by_cases c1 : 0 ≤ limit ∧ limit < base + n
  · have k1 : (decide (0 ≤ limit) && decide (limit < base + (n : Int))) = true := by simp [c1.1, c1.2]
    simp only [core, zrA, zrS, zrM, zrL, zrE, reduceCtorEq, zrD, ziE, ziL, ziN, k1]
    rw [if_pos c1]
    exact ⟨by simp, .refl hd'⟩
  · have k1 : (decide (0 ≤ limit) && decide (limit < base + (n : Int))) = false := by
      rw [Bool.and_eq_false_iff, decide_eq_false_iff_not, decide_eq_false_iff_not]
      omega
    simp only [core, zrA, zrS, zrM, zrL, zrE, reduceCtorEq, zrD, ziE, ziL, ziN, k1]
    refine (end_x hd' h0 hv hn hb hl).mono ?_
    rintro _ h1 ⟨e1, rfl⟩
    replace e1 := e1.symm
    subst e1
    simp only [core, zrA, zrS, zrM, zrL, zrE, reduceCtorEq, zrD, ziE, ziL, ziN, hd, l]
    rw [if_neg c1]
    exact ⟨by simp, .put _ hd'⟩
end Go.Proofs.Ytcnbamdmngaliaa.Ex
end

section

set_option linter.unusedSimpArgs false
set_option linter.unusedVariables false
set_option maxRecDepth 10000
set_option maxHeartbeats 4000000
namespace Go.Proofs.Ytcnbamdmngaliaa.Ex
open Go
theorem newD_x {H : AH} {size : Int} : WC Try.prog (tabOf Try.prog NT0) S0 6 [.lit (.int .i64 size)] H fun r h' =>
    if size < 1 ∨ 67108864 < size then h' = H ∧ r = .tup [.lit (.pointer none), .lit (.int .i64 22)] else h' = H.push (dkC size 0 (.lit (.slice none 0 0)) 0 (-1)) ∧ r = .tup [.ptr H.n 0, .lit (.int .i64 0)] := by
  refine WC_fn Try.func6 rfl rfl ?_
  by_cases c1 : size < 1
  · simp only [core, zrA, zrS, zrM, zrL, zrE, reduceCtorEq, zrD, ziE, ziL, ziN, Try.ntmps6, c1, aundef, true_or, if_true]
    try simp
  · by_cases c2 : 67108864 < size
    · simp only [core, zrA, zrS, zrM, zrL, zrE, reduceCtorEq, zrD, ziE, ziL, ziN, Try.ntmps6, c1, c2, aundef, or_true, if_true]
      try simp
    · simp only [core, zrA, zrS, zrM, zrL, zrE, reduceCtorEq, zrD, ziE, ziL, ziN, Try.ntmps6, c1, c2, aundef, or_self, if_false]
      try simp [dkC]
end Go.Proofs.Ytcnbamdmngaliaa.Ex
end

section

set_option linter.unusedSimpArgs false
set_option linter.unusedVariables false
set_option maxRecDepth 10000
set_option maxHeartbeats 4000000
namespace Go.Proofs.Ytcnbamdmngaliaa.Ex
open Go
def ekC (size base : Int) (v : AV) (synced limit : Int) : AB := .cells [.lit (.int .i64 size), .lit (.int .i64 base), .lit (.int .i64 synced), v, .lit (.int .i64 limit)] 57
theorem newE_x {H : AH} {size : Int} : WC Try.prog (tabOf Try.prog NT0) S0 7 [.lit (.int .i64 size)] H fun r h' =>
    if size < 1 ∨ 67108864 < size then h' = H ∧ r = .tup [.lit (.pointer none), .lit (.int .i64 22)] else h' = H.push (ekC size 0 (.lit (.slice none 0 0)) 0 (-1)) ∧ r = .tup [.ptr H.n 0, .lit (.int .i64 0)] := by
  refine WC_fn Try.func7 rfl rfl ?_
  by_cases c1 : size < 1
  · simp only [core, zrA, zrS, zrM, zrL, zrE, reduceCtorEq, zrD, ziE, ziL, ziN, Try.ntmps7, c1, aundef, true_or, if_true]
    try simp
  · by_cases c2 : 67108864 < size
    · simp only [core, zrA, zrS, zrM, zrL, zrE, reduceCtorEq, zrD, ziE, ziL, ziN, Try.ntmps7, c1, c2, aundef, or_true, if_true]
      try simp
    · simp only [core, zrA, zrS, zrM, zrL, zrE, reduceCtorEq, zrD, ziE, ziL, ziN, Try.ntmps7, c1, c2, aundef, or_self, if_false]
      try simp [ekC]
theorem endE_x {H : AH} {d n : Nat} {size base synced limit : Int} {v : AV} (hd : H.at d = some (ekC size base v synced limit)) (hv : isSl v = true) (hn : lenD v = n) (hb : 0 ≤ base ∧ base ≤ 4611686018427387904) (hl : n ≤ 1000000000) :
    WC Try.prog (tabOf Try.prog NT0) S0 25 [.ptr d 0] H fun r h' => h' = H ∧ r = .lit (.int .i64 (base + n)) := by
  refine WC_fn Try.func25 rfl rfl ?_
  unfold ekC at hd
  have L := ld_at (T := tabOf Try.prog NT0) hd
  have l := at_lt hd
  have hw : IntKind.i64.wrap (base + (n : Int)) = base + n := wrap_in (by omega) (by omega)
  simp only [core, zrA, zrS, zrM, zrL, zrE, reduceCtorEq, zrD, ziE, ziL, ziN, Try.ntmps25]
  rw [WB_regionD [0, 1, 2, 3, 4, 5, 6, 7, 8, 9, 10] 1328253880591971339557501110939813888 (by kernel_rfl)]
  repeat ((with_reducible refine WDM_cons ?_; simp only [dw1]; try simp only [dw2, zrA, zrM, zrR, zrO, zrE]); simp only [core, zrA, zrS, zrM, zrL, zrE, reduceCtorEq, zrD, ziE, ziL, ziN, cored, L, l, hv, hn, hw])
theorem frozenE_x {H : AH} {d n : Nat} {size base synced limit : Int} {v : AV} (hd : H.at d = some (ekC size base v synced limit)) (hv : isSl v = true) (hn : lenD v = n) (hb : 0 ≤ base ∧ base ≤ 4611686018427387904) (hl : n ≤ 1000000000) :
    WC Try.prog (tabOf Try.prog NT0) S0 27 [.ptr d 0] H fun r h' => h' = H ∧ r = .lit (.bool (decide (0 ≤ limit) && decide (limit < base + n))) := by
  refine WC_fn Try.func27 rfl rfl ?_
  have hd' := hd
  unfold ekC at hd
  have L := ld_at (T := tabOf Try.prog NT0) hd
  have l := at_lt hd
  simp only [core, zrA, zrS, zrM, zrL, zrE, reduceCtorEq, zrD, ziE, ziL, ziN, Try.ntmps27]
  rw [WB_regionD [0, 1, 2, 3, 4, 5, 6, 8, 9, 10, 11, 7, 12, 13, 14] 26958712494791491002811016313953058214472518385582176639538172035072 (by kernel_rfl)]
  by_cases c1 : 0 ≤ limit
  · repeat ((with_reducible refine WDM_cons ?_; simp only [dw1]; try simp only [dw2, zrA, zrM, zrR, zrO, zrE]); simp only [core, zrA, zrS, zrM, zrL, zrE, reduceCtorEq, zrD, ziE, ziL, ziN, cored, L, l, c1, aundef])
    refine (endE_x hd' hv hn hb hl).mono ?_
    rintro _ h1 ⟨e1, rfl⟩
    replace e1 := e1.symm
    subst e1
    repeat ((with_reducible refine WDM_cons ?_; simp only [dw1]; try simp only [dw2, zrA, zrM, zrR, zrO, zrE]); simp only [core, zrA, zrS, zrM, zrL, zrE, reduceCtorEq, zrD, ziE, ziL, ziN, cored, L, l, c1, aundef])
    try simp
  · repeat ((with_reducible refine WDM_cons ?_; simp only [dw1]; try simp only [dw2, zrA, zrM, zrR, zrO, zrE]); simp only [core, zrA, zrS, zrM, zrL, zrE, reduceCtorEq, zrD, ziE, ziL, ziN, cored, L, l, c1, aundef])
    try simp
theorem syncE_x {H : AH} {d n : Nat} {size base synced limit : Int} {v : AV} (hd : H.at d = some (ekC size base v synced limit)) (hv : isSl v = true) (hn : lenD v = n) (hb : 0 ≤ base ∧ base ≤ 4611686018427387904) (hl : n ≤ 1000000000) :
    WC Try.prog (tabOf Try.prog NT0) S0 12 [.ptr d 0] H fun r h' => r = .tup [] ∧ Mod d (ekC size base v (if 0 ≤ limit ∧ limit < base + n then synced else base + n) limit) H h' := by
  refine WC_fn Try.func12 rfl rfl ?_
  have hd' := hd
  unfold ekC at hd
  have L := ld_at (T := tabOf Try.prog NT0) hd
  have l := at_lt hd
  simp only [core, zrA, zrS, zrM, zrL, zrE, reduceCtorEq, zrD, ziE, ziL, ziN, Try.ntmps12]
  refine (frozenE_x hd' hv hn hb hl).mono ?_
  rintro _ h1 ⟨e1, rfl⟩
  replace e1 := e1.symm
  subst e1
  by_cases c1 : 0 ≤ limit ∧ limit < base + n
  · have k1 : (decide (0 ≤ limit) && decide (limit < base + (n : Int))) = true := by simp [c1.1, c1.2]
    simp only [core, zrA, zrS, zrM, zrL, zrE, reduceCtorEq, zrD, ziE, ziL, ziN, k1]
    rw [if_pos c1]
    exact ⟨by simp, .refl hd'⟩
  · have k1 : (decide (0 ≤ limit) && decide (limit < base + (n : Int))) = false := by
      rw [Bool.and_eq_false_iff, decide_eq_false_iff_not, decide_eq_false_iff_not]
      omega
    simp only [core, zrA, zrS, zrM, zrL, zrE, reduceCtorEq, zrD, ziE, ziL, ziN, k1]
    refine (endE_x hd' hv hn hb hl).mono ?_
    rintro _ h1 ⟨e1, rfl⟩
    replace e1 := e1.symm
    subst e1
    simp only [core, zrA, zrS, zrM, zrL, zrE, reduceCtorEq, zrD, ziE, ziL, ziN, hd, l]
    rw [if_neg c1]
    exact ⟨by simp, .put _ hd'⟩
end Go.Proofs.Ytcnbamdmngaliaa.Ex
end

section

set_option linter.unusedSimpArgs false
set_option linter.unusedVariables false
set_option maxRecDepth 10000
set_option maxHeartbeats 4000000
namespace Go.Proofs.Ytcnbamdmngaliaa.Ex
open Go
theorem appendD_x {H : AH} {d n0 : Nat} {size base synced limit : Int} {v x : AV} {xs ys : List UInt8} {F : Nat → Prop} (hd : H.at d = some (dkC size base v synced limit)) (h0 : 0 < size) (hs : size ≤ 67108864) (hb : 0 ≤ base ∧ base ≤ 4611686018427387904)
    (ho : VwB n0 H v xs) (hl : (xs.length : Int) ≤ size) (hx : IsSl RByte F H x ys) (hy : ys.length ≤ 1000000000) (hn0 : n0 ≤ H.n) :
    WC Try.prog (tabOf Try.prog NT0) S0 9 [.ptr d 0, x] H fun r h' => if size - xs.length < ys.length then h' = H ∧ r = .tup [.lit (.int .i64 0), .lit (.int .i64 28)]
      else r = .tup [.lit (.int .i64 (base + xs.length)), .lit (.int .i64 0)] ∧ ∃ v', h'.at d = some (dkC size base v' synced limit) ∧ VwB n0 h' v' (xs ++ ys) ∧ Chg [d] v v' H h' := by
  refine WC_fn Try.func9 rfl rfl ?_
  have hd' := hd
  unfold dkC at hd
  have L := ld_at (T := tabOf Try.prog NT0) hd
  have l := at_lt hd
  have v1 := ho.isSl
  have v2 := ho.lenD
  have x1 := hx.isSl
  have x2 := hx.lenD
  have hw : IntKind.i64.wrap (size - (xs.length : Int)) = size - xs.length := wrap_in (by omega) (by omega)
  simp only [core, zrA, zrS, zrM, zrL, zrE, reduceCtorEq, zrD, ziE, ziL, ziN, Try.ntmps9]
  refine (made_x hd' h0).mono ?_
  rintro _ h1 ⟨e1, rfl⟩
  replace e1 := e1.symm
  subst e1
  by_cases c : size - (xs.length : Int) < ys.length
  · simp only [if_pos c]
    simp only [core, zrA, zrS, zrM, zrL, zrE, reduceCtorEq, zrD, ziE, ziL, ziN]
    rw [WB_regionD [0, 1, 2, 3, 4, 5, 6, 7, 8, 9, 10, 11, 12] 374075867972729593563154991592821759488596599906304 (by kernel_rfl)]
    repeat ((with_reducible refine WDM_cons ?_; simp only [dw1]; try simp only [dw2, zrA, zrM, zrR, zrO, zrE]); simp only [core, zrA, zrS, zrM, zrL, zrE, reduceCtorEq, zrD, ziE, ziL, ziN, cored, L, l, v1, v2, x1, x2, hw, c])
    try simp
  · simp only [if_neg c]
    simp only [core, zrA, zrS, zrM, zrL, zrE, reduceCtorEq, zrD, ziE, ziL, ziN]
    rw [WB_regionD [0, 1, 2, 3, 4, 5, 6, 7, 8, 9, 10, 11, 12] 374075867972729593563154991592821759488596599906304 (by kernel_rfl)]
    repeat ((with_reducible refine WDM_cons ?_; simp only [dw1]; try simp only [dw2, zrA, zrM, zrR, zrO, zrE]); simp only [core, zrA, zrS, zrM, zrL, zrE, reduceCtorEq, zrD, ziE, ziL, ziN, cored, L, l, v1, v2, x1, x2, hw, c])
    refine (end_x hd' h0 v1 v2 hb (by omega)).mono ?_
    rintro _ h1 ⟨e1, rfl⟩
    replace e1 := e1.symm
    subst e1
    simp only [core, zrA, zrS, zrM, zrL, zrE, reduceCtorEq, zrD, ziE, ziL, ziN, L, l]
    refine WOp_app (ho.app hx (by omega) hn0) ?_
    rintro v' h1 ⟨ho1, c1, -⟩
    have ap := ho.sep hd (by decide)
    obtain ⟨k1, ap1⟩ := c1.k d l (by simp) ap
    rw [hd] at k1
    have L1 := ld_at (T := tabOf Try.prog NT0) k1
    have l1 := at_lt k1
    have w1 := ho1.isSl
    have w2 := ho1.one
    simp only [core, zrA, zrS, zrM, zrL, zrE, reduceCtorEq, zrD, ziE, ziL, ziN, L1, l1, k1, w1, w2]
    refine ⟨v', rfl, ho1.lift fun b off n cap e => at_put_ne _ (fun eb => ap1 off n cap (by rw [e, eb])), (c1.mono (by simp)).trans (.put _ (by simp))⟩
end Go.Proofs.Ytcnbamdmngaliaa.Ex
end

section

set_option linter.unusedSimpArgs false
set_option linter.unusedVariables false
namespace Go.Proofs.Ytcnbamdmngaliaa
open Go.RowKit
section
variable {P : Program} {ops : Array Oper} {md : Region.Mode} {C S : World → Prop}
end
end Go.Proofs.Ytcnbamdmngaliaa
end

section

set_option linter.unusedSimpArgs false
set_option linter.unusedVariables false
namespace Go.Proofs.Ytcnbamdmngaliaa
open Go.RowKit
/-- Bytes as a number, the lowest first. -/
def leN : List UInt8 → Nat
  | [] => 0
  | b :: r => b.toNat + 256 * leN r
theorem leN_lt (l : List UInt8) : leN l < 256 ^ l.length := by
  induction l with
  | nil => simp [leN]
  | cons b r ih =>
    have := UInt8.toNat_lt b
    simp only [leN, List.length_cons, Nat.pow_succ]
    omega
theorem leN_snoc (l : List UInt8) (b : UInt8) : leN (l ++ [b]) = leN l + b.toNat * 256 ^ l.length := by
  induction l with
  | nil => simp [leN]
  | cons c r ih =>
    simp only [List.cons_append, leN, ih, List.length_cons, Nat.pow_succ]
    rw [Nat.mul_add, Nat.mul_comm (256 ^ r.length) 256, ← Nat.mul_assoc, ← Nat.mul_assoc, Nat.mul_comm 256 b.toNat]
    omega
theorem leN_take (bs : List UInt8) (k : Nat) (hk : k < bs.length) : leN (bs.take (k + 1)) = leN (bs.take k) + bs[k].toNat * 256 ^ k := by
  rw [List.take_succ_eq_append_getElem hk, leN_snoc, List.length_take, Nat.min_eq_left (by omega)]
theorem or_high (V B k : Nat) (hV : V < 256 ^ k) (hB : B < 256) (hk : k < 8) : bits BinOp.or IntKind.u64 (V : Int) (IntKind.u64.wrap ((B : Int) * 2 ^ (8 * k))) = ((V + B * 256 ^ k : Nat) : Int) := by
  have hp : (256 : Nat) ^ k = 2 ^ (8 * k) := by rw [Nat.pow_mul]
  have h8 : 256 ^ (k + 1) ≤ 256 ^ 8 := Nat.pow_le_pow_right (by decide) (by omega)
  have hBk : B * 256 ^ k + 256 ^ k ≤ 256 ^ (k + 1) := by rw [Nat.pow_succ, Nat.mul_comm (256 ^ k) 256, ← Nat.succ_mul]; exact Nat.mul_le_mul_right _ hB
  have h64 : (256 : Nat) ^ 8 = 18446744073709551616 := by decide
  have e0 : IntKind.u64.wrap ((B : Int) * 2 ^ (8 * k)) = ((B * 256 ^ k : Nat) : Int) := by
    have e : (B : Int) * 2 ^ (8 * k) = ((B * 256 ^ k : Nat) : Int) := by rw [hp]; push_cast; rfl
    rw [e]
    have : IntKind.u64.wrap ((B * 256 ^ k : Nat) : Int) = ((B * 256 ^ k : Nat) : Int) % 18446744073709551616 := by simp [IntKind.wrap, IntKind.bits, IntKind.signed]
    rw [this]
    omega
  rw [e0, (bits_nat .u64 64 (by decide) (fun n h0 h1 => by
    have : IntKind.u64.wrap n = n % 18446744073709551616 := by simp [IntKind.wrap, IntKind.bits, IntKind.signed]
    rw [this]; omega) V (B * 256 ^ k) (by omega) (by omega)).2]
  congr 1
  rw [Nat.or_comm, hp, Nat.mul_comm B, ← Nat.two_pow_add_eq_or_of_lt (by rw [← hp]; exact hV), Nat.add_comm]
end Go.Proofs.Ytcnbamdmngaliaa
end

section

set_option linter.unusedSimpArgs false
set_option linter.unusedVariables false
namespace Go.Proofs.Ytcnbamdmngaliaa
open Go.RowKit
/-- What Unframe answers: the content, how far, the error. -/
def unfr (bs : List UInt8) : List UInt8 × Nat × Nat :=
  if bs.length < 8 then ([], 0, 11)
  else
    let n := leN (bs.take 4)
    if 524288 < n then ([], 0, 27)
    else if (bs.drop 8).length < n then ([], 0, 11)
    else if crcN ((bs.drop 8).take n) ≠ leN ((bs.drop 4).take 4) then ([], 0, 74)
    else ((bs.drop 8).take n, n + 8, 0)
/-- How a slice of bytes that is new is handed back. -/
def Fresh (w w' : World) (v : Value) (bs : List UInt8) : Prop := ∃ g, Own w' 5 1 v bs.length (bs.map bv) g ∧ ∀ k, g = some k → w.heap.size ≤ k
theorem Fresh.nil (w w' : World) : Fresh w w' (.slice none 0 0) [] := ⟨none, Own.nil _ _ _, fun k h => by cases h⟩
end Go.Proofs.Ytcnbamdmngaliaa
end

section

set_option linter.unusedSimpArgs false
set_option linter.unusedVariables false
namespace Go.Proofs.Ytcnbamdmngaliaa
open Go.RowKit
/-- So many bytes of a number, the lowest first. -/
def leB : Nat → Nat → List UInt8
  | 0, _ => []
  | k + 1, n => UInt8.ofNat (n % 256) :: leB k (n / 256)
theorem leB_length (k n : Nat) : (leB k n).length = k := by
  induction k generalizing n with
  | zero => rfl
  | succ k ih => simp [leB, ih]
theorem leN_leB (k n : Nat) : leN (leB k n) = n % 256 ^ k := by
  induction k generalizing n with
  | zero => simp [leB, leN, Nat.mod_one]
  | succ k ih =>
    simp only [leB, leN, ih, UInt8.toNat_ofNat']
    rw [show (256 : Nat) ^ (k + 1) = 256 * 256 ^ k by rw [Nat.pow_succ, Nat.mul_comm], Nat.mod_mul]
    omega
/-- A frame. -/
def frameB (bs : List UInt8) : List UInt8 := leB 4 bs.length ++ leB 4 (crcN bs) ++ bs
end Go.Proofs.Ytcnbamdmngaliaa
end

section

set_option linter.unusedSimpArgs false
set_option linter.unusedVariables false
namespace Go.Proofs.Ytcnbamdmngaliaa
theorem unfr_out {bs c : List UInt8} {n : Nat} (h : unfr bs = (c, n, 0)) : 8 ≤ bs.length ∧ n = leN (bs.take 4) + 8 ∧ leN (bs.take 4) ≤ 524288 ∧ n ≤ bs.length ∧ c = (bs.drop 8).take (n - 8) ∧ crcN c = leN ((bs.drop 4).take 4) := by
  unfold unfr at h
  by_cases h8 : bs.length < 8
  · rw [if_pos h8] at h; simp at h
  rw [if_neg h8] at h
  dsimp only at h
  by_cases h1 : 524288 < leN (bs.take 4)
  · rw [if_pos h1] at h; simp at h
  rw [if_neg h1] at h
  by_cases h2 : (bs.drop 8).length < leN (bs.take 4)
  · rw [if_pos h2] at h; simp at h
  rw [if_neg h2] at h
  by_cases h3 : crcN ((bs.drop 8).take (leN (bs.take 4))) ≠ leN ((bs.drop 4).take 4)
  · rw [if_pos h3] at h; simp at h
  rw [if_neg h3] at h
  simp only [Prod.mk.injEq, and_true] at h
  obtain ⟨rfl, rfl⟩ := h
  rw [List.length_drop] at h2
  refine ⟨by omega, rfl, by omega, by omega, by rw [Nat.add_sub_cancel], Classical.not_not.1 h3⟩
theorem unfr_in {bs c : List UInt8} {n : Nat} (h8 : 8 ≤ bs.length) (hn : n = leN (bs.take 4) + 8) (hm : leN (bs.take 4) ≤ 524288) (hl : n ≤ bs.length) (hc : c = (bs.drop 8).take (n - 8)) (hs : crcN c = leN ((bs.drop 4).take 4)) : unfr bs = (c, n, 0) := by
  subst hn
  rw [Nat.add_sub_cancel] at hc
  subst hc
  unfold unfr
  rw [if_neg (by omega)]
  dsimp only
  rw [if_neg (by omega), if_neg (by rw [List.length_drop]; omega), if_neg (fun h => h hs)]
theorem unfr_app {bs c x : List UInt8} {n : Nat} (h : unfr bs = (c, n, 0)) : unfr (bs ++ x) = (c, n, 0) := by
  obtain ⟨h1, h2, h3, h4, h5, h6⟩ := unfr_out h
  have e1 : (bs ++ x).take 4 = bs.take 4 := List.take_append_of_le_length (by omega)
  have e2 : (bs ++ x).drop 4 = bs.drop 4 ++ x := List.drop_append_of_le_length (by omega)
  have e3 : (bs ++ x).drop 8 = bs.drop 8 ++ x := List.drop_append_of_le_length (by omega)
  refine unfr_in (by rw [List.length_append]; omega) (by rw [e1]; exact h2) (by rw [e1]; exact h3) (by rw [List.length_append]; omega) ?_ ?_
  · rw [e3, List.take_append_of_le_length (by rw [List.length_drop]; omega)]; exact h5
  · rw [e2, List.take_append_of_le_length (by rw [List.length_drop]; omega)]; exact h6
theorem unfr_pre {y r c : List UInt8} {n : Nat} (h : unfr (y ++ r) = (c, n, 0)) (hn : n ≤ y.length) : unfr y = (c, n, 0) := by
  obtain ⟨h1, h2, h3, h4, h5, h6⟩ := unfr_out h
  have h8 : 8 ≤ y.length := by omega
  have e1 : (y ++ r).take 4 = y.take 4 := List.take_append_of_le_length (by omega)
  have e2 : (y ++ r).drop 4 = y.drop 4 ++ r := List.drop_append_of_le_length (by omega)
  have e3 : (y ++ r).drop 8 = y.drop 8 ++ r := List.drop_append_of_le_length (by omega)
  rw [e1] at h2 h3
  rw [e3, List.take_append_of_le_length (by rw [List.length_drop]; omega)] at h5
  rw [e2, List.take_append_of_le_length (by rw [List.length_drop]; omega)] at h6
  exact unfr_in h8 h2 h3 hn h5 h6
theorem unfr_nil : (unfr []).2.2 ≠ 0 := by decide
theorem unfr_frame {b : List UInt8} (hb : b.length ≤ 524288) : unfr (frameB b) = (b, b.length + 8, 0) := by
  have hc := crcN_lt b
  have l4 := leB_length 4 b.length
  have l5 := leB_length 4 (crcN b)
  have e0 : frameB b = leB 4 b.length ++ (leB 4 (crcN b) ++ b) := by unfold frameB; rw [List.append_assoc]
  have e1 : (frameB b).take 4 = leB 4 b.length := by rw [e0]; exact List.take_left' l4
  have e2 : (frameB b).drop 4 = leB 4 (crcN b) ++ b := by rw [e0]; exact List.drop_left' l4
  have e3 : (frameB b).drop 8 = b := by
    rw [show 8 = 4 + 4 from rfl, ← List.drop_drop, e2]
    exact List.drop_left' l5
  have hl : (frameB b).length = b.length + 8 := by rw [e0, List.length_append, List.length_append, l4, l5]; omega
  refine unfr_in (by omega) ?_ ?_ (by omega) ?_ ?_
  · rw [e1, leN_leB]; omega
  · rw [e1, leN_leB]; omega
  · rw [e3, Nat.add_sub_cancel, List.take_length]
  · rw [e2, List.take_append_of_le_length (by rw [l5]; exact Nat.le_refl 4), List.take_of_length_le (by rw [l5]; exact Nat.le_refl 4), leN_leB]
    exact (Nat.mod_eq_of_lt hc).symm
/-! Records one behind another. -/
abbrev RecL := List (Int × List UInt8)
inductive Stp (at0 : Int) (bs : List UInt8) : RecL → Int → List UInt8 → Prop
  | nil : Stp at0 bs [] at0 bs
  | snoc {l : RecL} {a : Int} {r c : List UInt8} {n : Nat} (h : Stp at0 bs l a r) (hu : unfr r = (c, n, 0)) : Stp at0 bs (l ++ [(a, c)]) (a + n) (r.drop n)
theorem Stp.len {at0 a : Int} {bs r : List UInt8} {l : RecL} (h : Stp at0 bs l a r) : r.length ≤ bs.length ∧ a = at0 + ((bs.length - r.length : Nat) : Int) := by
  induction h with
  | nil => simp
  | snoc h hu ih =>
    obtain ⟨-, h2, -, h4, -⟩ := unfr_out hu
    rw [List.length_drop]
    exact ⟨by omega, by omega⟩
theorem Stp.cons {at0 a : Int} {bs r c : List UInt8} {l : RecL} {n : Nat} (hu : unfr bs = (c, n, 0)) (h : Stp (at0 + n) (bs.drop n) l a r) : Stp at0 bs ((at0, c) :: l) a r := by
  induction h with
  | nil => exact Stp.snoc .nil hu
  | snoc h hv ih => exact ih.snoc hv
theorem Stp.head {at0 a : Int} {bs r : List UInt8} {l : RecL} (h : Stp at0 bs l a r) : (l = [] ∧ a = at0 ∧ r = bs) ∨ ∃ c n l', unfr bs = (c, n, 0) ∧ l = (at0, c) :: l' ∧ Stp (at0 + n) (bs.drop n) l' a r := by
  induction h with
  | nil => exact .inl ⟨rfl, rfl, rfl⟩
  | snoc h hu ih =>
    rcases ih with ⟨rfl, rfl, rfl⟩ | ⟨c, n, l', h1, rfl, h3⟩
    · exact .inr ⟨_, _, [], hu, rfl, .nil⟩
    · exact .inr ⟨c, n, _, h1, rfl, h3.snoc hu⟩
/-- All that there are. -/
def Full (at0 : Int) (bs : List UInt8) (l : RecL) (a : Int) (r : List UInt8) : Prop := Stp at0 bs l a r ∧ (unfr r).2.2 ≠ 0
theorem Full.uniq : ∀ (l l' : RecL) {at0 a a' : Int} {bs r r' : List UInt8}, Full at0 bs l a r → Full at0 bs l' a' r' → l = l' ∧ a = a' ∧ r = r'
  | l, l', at0, a, a', bs, r, r', h, h' => by
    rcases h.1.head with ⟨rfl, rfl, rfl⟩ | ⟨c, n, m, h1, rfl, h3⟩
    · rcases h'.1.head with ⟨rfl, rfl, rfl⟩ | ⟨c, n, m, h1, rfl, h3⟩
      · exact ⟨rfl, rfl, rfl⟩
      · exact absurd (by rw [h1]) h.2
    · rcases h'.1.head with ⟨rfl, rfl, rfl⟩ | ⟨c', n', m', h1', rfl, h3'⟩
      · exact absurd (by rw [h1]) h'.2
      · rw [h1] at h1'
        simp only [Prod.mk.injEq, and_true] at h1'
        obtain ⟨rfl, rfl⟩ := h1'
        obtain ⟨rfl, rfl, rfl⟩ := Full.uniq m m' ⟨h3, h.2⟩ ⟨h3', h'.2⟩
        exact ⟨rfl, rfl, rfl⟩
termination_by l => l.length
theorem Stp.app {at0 a : Int} {bs r x : List UInt8} {l : RecL} (h : Stp at0 bs l a r) : Stp at0 (bs ++ x) l a (r ++ x) := by
  induction h with
  | nil => exact .nil
  | snoc h hu ih =>
    obtain ⟨-, -, -, h4, -⟩ := unfr_out hu
    have := ih.snoc (unfr_app (x := x) hu)
    rw [List.drop_append_of_le_length h4] at this
    exact this
theorem Full.frame {at0 a : Int} {bs b : List UInt8} {l : RecL} (h : Full at0 bs l a []) (hb : b.length ≤ 524288) : Full at0 (bs ++ frameB b) (l ++ [(a, b)]) (a + ((b.length + 8 : Nat) : Int)) [] := by
  have h1 := h.1.app (x := frameB b)
  rw [List.nil_append] at h1
  have h2 := h1.snoc (unfr_frame hb)
  have hl : (frameB b).length = b.length + 8 := by
    obtain ⟨-, -, -, h4, -⟩ := unfr_out (unfr_frame hb)
    unfold frameB
    simp only [List.length_append, leB_length]
    omega
  rw [List.drop_of_length_le (by omega)] at h2
  exact ⟨h2, unfr_nil⟩
/-- What stands behind the last good frame is cut off. -/
theorem Stp.cut {at0 a : Int} {bs r : List UInt8} {l : RecL} (h : Stp at0 bs l a r) : ∃ y, bs = y ++ r ∧ Stp at0 y l a [] := by
  have key : ∀ {l : RecL} {a : Int} {q : List UInt8}, Stp at0 bs l a q → ∀ z r', q = z ++ r' → ∃ y, bs = y ++ r' ∧ Stp at0 y l a z := by
    intro l a q hq
    induction hq with
    | nil => exact fun z r' e => ⟨z, e, .nil⟩
    | snoc h hu ih =>
      rename_i l a q c n
      intro z r' e
      obtain ⟨-, -, -, h4, -⟩ := unfr_out hu
      obtain ⟨y, hy, hs⟩ := ih (q.take n ++ z) r' (by rw [List.append_assoc, ← e, List.take_append_drop])
      have hl : (q.take n).length = n := by rw [List.length_take]; omega
      have hq : q = (q.take n ++ z) ++ r' := by rw [List.append_assoc, ← e, List.take_append_drop]
      rw [hq] at hu
      have := hs.snoc (unfr_pre hu (by rw [List.length_append]; omega))
      rw [show (List.take n q ++ z).drop n = z by rw [List.drop_append_of_le_length (by omega), List.drop_of_length_le (by omega), List.nil_append]] at this
      exact ⟨y, hy, this⟩
  exact key h [] r rfl
/-- The records from the k-th one on. -/
theorem Stp.from : ∀ {l1 l2 : RecL} {at0 a p : Int} {bs r c : List UInt8}, Stp at0 bs (l1 ++ (p, c) :: l2) a r → at0 ≤ p ∧ Stp p (bs.drop (p - at0).toNat) ((p, c) :: l2) a r
  | [], l2, at0, a, p, bs, r, c, h => by
    rcases h.head with ⟨e, -⟩ | ⟨c', n, l', h1, e, h3⟩
    · cases e
    · cases e
      refine ⟨Int.le_refl _, ?_⟩
      rw [Int.sub_self]
      exact h
  | q :: l1, l2, at0, a, p, bs, r, c, h => by
    rcases h.head with ⟨e, -⟩ | ⟨c', n, l', h1, e, h3⟩
    · cases e
    · cases e
      obtain ⟨g1, g2⟩ := Stp.from h3
      refine ⟨by omega, ?_⟩
      rw [List.drop_drop, show n + (p - (at0 + (n : Int))).toNat = (p - at0).toNat by omega] at g2
      exact g2
end Go.Proofs.Ytcnbamdmngaliaa
end

section

set_option linter.unusedSimpArgs false
set_option linter.unusedVariables false
set_option maxRecDepth 10000
set_option maxHeartbeats 4000000
namespace Go.Proofs.Ytcnbamdmngaliaa.Ex
open Go
theorem IsSl.byteAt {T : TT} {F : Nat → Prop} {h : AH} {v : AV} {xs : List UInt8} {e : TypeId} (hs : IsSl RByte F h v xs) (hA : isAggT T e = some false) (hS : sizeT T e = some 1) {i : Nat} (hi : i < xs.length) :
    loadA T h e (slB v) (slO v + i) = some (.lit (.int .u8 ((xs[i]).toNat : Int))) := by
  obtain ⟨c, hc, h2⟩ := hs.get (T := T) (List.getElem?_eq_getElem hi)
  obtain rfl : c = [.lit (.int .u8 ((xs[i]).toNat : Int))] := hc
  have := h2 e 1 0 hS (by omega) (by show 0 + 1 ≤ 1; omega)
  simp only [RByte, Nat.mul_one, Nat.add_zero] at this
  rw [this]
  simp [ldL, hA, hS]
theorem or_step (xs : List UInt8) {k : Nat} (hk : k < xs.length) (hk8 : k < 8) : orI .u64 (leN (xs.take k) : Nat) (shlI .u64 ((xs[k]).toNat : Int) ((8 * k : Nat) : Int)) = ((leN (xs.take (k + 1)) : Nat) : Int) := by
  have hV : leN (xs.take k) < 256 ^ k := by
    have := leN_lt (xs.take k)
    rw [List.length_take, Nat.min_eq_left (by omega)] at this
    exact this
  have e := or_high (leN (xs.take k)) (xs[k]).toNat k hV (UInt8.toNat_lt _) hk8
  rw [leN_take xs k hk, ← e]
  unfold orI shlI bits
  rw [show min ((8 * k : Nat) : Int).toNat IntKind.u64.bits = 8 * k by
    show min _ 64 = _
    omega]
theorem add_step (xs : List UInt8) {k : Nat} (hk : k < xs.length) (hk4 : k < 4) : IntKind.u32.wrap ((leN (xs.take k) : Nat) + shlI .u32 ((xs[k]).toNat : Int) ((8 * k : Nat) : Int)) = ((leN (xs.take (k + 1)) : Nat) : Int) := by
  have hV : leN (xs.take (k + 1)) < 256 ^ (k + 1) := by
    have := leN_lt (xs.take (k + 1))
    rw [List.length_take, Nat.min_eq_left (by omega)] at this
    exact this
  have h4 : 256 ^ (k + 1) ≤ 256 ^ 4 := Nat.pow_le_pow_right (by decide) (by omega)
  have h44 : (256 : Nat) ^ 4 = 4294967296 := by decide
  rw [leN_take xs k hk] at hV ⊢
  have e : shlI .u32 ((xs[k]).toNat : Int) ((8 * k : Nat) : Int) = (((xs[k]).toNat * 256 ^ k : Nat) : Int) := by
    unfold shlI
    rw [show min ((8 * k : Nat) : Int).toNat IntKind.u32.bits = 8 * k by
      show min _ 32 = _
      omega]
    have hp : (256 : Nat) ^ k = 2 ^ (8 * k) := by rw [Nat.pow_mul]
    rw [show ((xs[k]).toNat : Int) * 2 ^ (8 * k) = (((xs[k]).toNat * 256 ^ k : Nat) : Int) by rw [hp]; push_cast; rfl]
    exact wrap_u32 (by omega) (by omega)
  rw [e]
  exact (wrap_u32 (by omega) (by omega)).trans (by omega)
/-- A codec that reads. -/
def cdC (v : AV) : AB := .cells [.lit (.slice none 0 0), v, .lit (.bool true)] 100
theorem word_x {H : AH} {c : Nat} {v : AV} {xs : List UInt8} {F : Nat → Prop} (hc : H.at c = some (cdC v)) (hv : IsSl RByte F H v xs) (h4 : 4 ≤ xs.length) (hl : xs.length ≤ 1000000000) :
    WC Try.prog (tabOf Try.prog NT0) S0 63 [.ptr c 0, .lit (.int .u64 0), .lit (.int .i64 4)] H fun r h' => r = .lit (.int .u64 ((leN (xs.take 4) : Nat) : Int)) ∧ Mod c (cdC (subSl 1 4 xs.length v)) H h' := by
  refine WC_fn Try.func63 rfl rfl ?_
  have hd' := hc
  unfold cdC at hc
  have L := ld_at (T := tabOf Try.prog NT0) hc
  have l := at_lt hc
  have v1 := hv.isSl
  have v2 := hv.lenD
  have hcap : CapOk 1 v := by obtain ⟨L, -, -, hc, -⟩ := hv.out; exact hc
  have c4 : ((xs.length : Int) < 4) = False := by simp only [eq_iff_iff, iff_false]; omega
  have c4' : ((4 : Int) ≤ (xs.length : Int)) = True := by simp only [eq_iff_iff, iff_true]; omega
  simp only [core, zrA, zrS, zrM, zrL, zrE, reduceCtorEq, zrD, ziE, ziL, ziN, Try.ntmps63, L, l, v1, v2, c4]
  refine WB_for 4 (fun i t h => h = H ∧ t.n = 71 ∧ t.get 0 = .ptr c 0 ∧ t.get 1 = .lit (.int .u64 ((leN (xs.take i) : Nat) : Int)) ∧ t.get 2 = .lit (.int .i64 4) ∧ t.get 43 = .lit (.int .i64 4) ∧ t.get 44 = .lit (.int .i64 i)) ?_ ?_ _ _ ?_
  · rintro i t h hlt hc2 ⟨rfl, hn, g0, g1, g2, g43, g44⟩ ih
    have hi : i < xs.length := by omega
    have hc3 : ((i : Int) < 4) = True := by simp only [eq_iff_iff, iff_true]; omega
    have hld := hv.byteAt (T := tabOf Try.prog NT0) (e := 5) (by kernel_rfl) (by kernel_rfl) hi
    have hw := wrap_succ hlt (by omega)
    have hw8 : IntKind.i64.wrap (8 * (i : Int)) = ((8 * i : Nat) : Int) := (wrap_in (by omega) (by omega)).trans (by omega)
    have h80 : ((0 : Int) ≤ ((8 * i : Nat) : Int)) = True := by simp only [eq_iff_iff, iff_true]; omega
    have hB := UInt8.toNat_lt (xs[i])
    have hcv : IntKind.u64.wrap ((xs[i]).toNat : Int) = ((xs[i]).toNat : Int) := by
      have : IntKind.u64.wrap ((xs[i]).toNat : Int) = ((xs[i]).toNat : Int) % 18446744073709551616 := by simp [IntKind.wrap, IntKind.bits, IntKind.signed]
      rw [this]; omega
    have hst := or_step xs hi (by omega)
    simp only [core, zrA, zrS, zrM, zrL, zrE, reduceCtorEq, zrD, ziE, ziL, ziN, hn, g0, g1, g2, g43, g44, L, l, v1, v2, hi, hc3, hld, hw, hw8, h80, hcv, hst]
    refine ih _ _ ⟨rfl, ?_⟩
    simp only [core, zrA, zrS, zrM, zrL, zrE, reduceCtorEq, zrD, ziE, ziL, ziN, hn, g0, g1, g2, g43, g44]
  · rintro t h hc2 ⟨rfl, hn, g0, g1, g2, g43, g44⟩
    have hc2 : ((4 : Int) < 4) = False := by decide
    have hc3 : (((4 : Nat) : Int) < 4) = False := by decide
    have w1 := subSl_isSl (z := 1) (l := 4) (r := xs.length) v1
    have w2 : (subSl 1 4 xs.length v).one = true := (SlN.of w1).elim fun _ h => h.one
    simp only [core, zrA, zrS, zrM, zrL, zrE, reduceCtorEq, zrD, ziE, ziL, ziN, hn, g0, g1, g2, g43, g44, hc2, hc3, L, l, v1, v2, hcap, c4', hc, w1, w2, Int.le_refl]
    exact .put _ hd'
  · simp only [core, zrA, zrS, zrM, zrL, zrE, reduceCtorEq, zrD, ziE, ziL, ziN]
    simp [leN]
/-- The document's reader. -/
def rdC (v : AV) : AB := .cells [v, .lit (.bool false)] 107
theorem take_x {H : AH} {c : Nat} {v : AV} {xs : List UInt8} {F : Nat → Prop} (hc : H.at c = some (rdC v)) (hv : IsSl RByte F H v xs) (h4 : 4 ≤ xs.length) (hl : xs.length ≤ 1000000000) :
    WC Try.prog (tabOf Try.prog NT0) S0 71 [.ptr c 0, .lit (.int .i64 4)] H fun r h' => r = subSl 1 0 4 v ∧ Mod c (rdC (subSl 1 4 xs.length v)) H h' := by
  refine WC_fn Try.func71 rfl rfl ?_
  have hd' := hc
  unfold rdC at hc
  have L := ld_at (T := tabOf Try.prog NT0) hc
  have l := at_lt hc
  have v1 := hv.isSl
  have v2 := hv.lenD
  have hcap : CapOk 1 v := by obtain ⟨L, -, -, hc, -⟩ := hv.out; exact hc
  have c4 : ((xs.length : Int) < 4) = False := by simp only [eq_iff_iff, iff_false]; omega
  have c4' : ((4 : Int) ≤ (xs.length : Int)) = True := by simp only [eq_iff_iff, iff_true]; omega
  have w1 := subSl_isSl (z := 1) (l := 4) (r := xs.length) v1
  have w2 : (subSl 1 4 xs.length v).one = true := (SlN.of w1).elim fun _ h => h.one
  simp only [core, zrA, zrS, zrM, zrL, zrE, reduceCtorEq, zrD, ziE, ziL, ziN, Try.ntmps71, L, l, v1, v2, c4, c4', hcap, hc, w1, w2, Int.le_refl]
  exact .put _ hd'
theorem wordE_x {H : AH} {c : Nat} {v : AV} {xs : List UInt8} {F : Nat → Prop} (hc : H.at c = some (rdC v)) (hv : IsSl RByte F H v xs) (hF : ¬ F c) (h4 : 4 ≤ xs.length) (hl : xs.length ≤ 1000000000) :
    WC Try.prog (tabOf Try.prog NT0) S0 67 [.ptr c 0] H fun r h' => r = .lit (.int .u32 ((leN (xs.take 4) : Nat) : Int)) ∧ Mod c (rdC (subSl 1 4 xs.length v)) H h' := by
  refine WC_fn Try.func67 rfl rfl ?_
  simp only [core, zrA, zrS, zrM, zrL, zrE, reduceCtorEq, zrD, ziE, ziL, ziN, Try.ntmps67]
  refine (take_x hc hv h4 hl).mono ?_
  rintro _ h1 ⟨rfl, m⟩
  have hs : IsSl RByte F h1 (subSl 1 0 4 v) (xs.take 4) := by
    have := (hv.sub (l := 0) (r := 4) (by omega) h4).lift (G := F) (h' := h1) fun b hb hlt => ⟨m.ne b (fun e => hF (e ▸ hb)), hb⟩
    rw [List.drop_zero] at this
    exact this
  have hl4 : (xs.take 4).length = 4 := by rw [List.length_take]; omega
  obtain ⟨ys, hy⟩ : ∃ ys, ys = xs.take 4 := ⟨_, rfl⟩
  obtain ⟨u, hu⟩ : ∃ u, u = subSl 1 0 4 v := ⟨_, rfl⟩
  rw [← hy, ← hu] at hs
  rw [← hy] at hl4
  rw [← hy, ← hu]
  have v1 := hs.isSl
  have v2 := hs.lenD
  rw [hl4] at v2
  simp only [core, zrA, zrS, zrM, zrL, zrE, reduceCtorEq, zrD, ziE, ziL, ziN]
  refine WB_for 4 (fun i t h => h = h1 ∧ t.n = 23 ∧ t.get 3 = u ∧ t.get 4 = .lit (.int .u32 ((leN (ys.take i) : Nat) : Int)) ∧ t.get 8 = .lit (.int .i64 i)) ?_ ?_ _ _ ?_
  · rintro i t h hlt hc2 ⟨rfl, hn, g3, g4, g8⟩ ih
    have hi : i < ys.length := by omega
    have hc3 : ((i : Int) < 4) = True := by simp only [eq_iff_iff, iff_true]; omega
    have hld := hs.byteAt (T := tabOf Try.prog NT0) (e := 5) (by kernel_rfl) (by kernel_rfl) hi
    have hw := wrap_succ hlt (by omega)
    have hw8 : IntKind.i64.wrap (8 * (i : Int)) = ((8 * i : Nat) : Int) := (wrap_in (by omega) (by omega)).trans (by omega)
    have h80 : ((0 : Int) ≤ ((8 * i : Nat) : Int)) = True := by simp only [eq_iff_iff, iff_true]; omega
    have hB := UInt8.toNat_lt (ys[i])
    have hcv : IntKind.u32.wrap ((ys[i]).toNat : Int) = ((ys[i]).toNat : Int) := wrap_u32 (by omega) (by omega)
    have hst := add_step ys hi hlt
    simp only [core, zrA, zrS, zrM, zrL, zrE, reduceCtorEq, zrD, ziE, ziL, ziN, hn, g3, g4, g8, v1, v2, hlt, hi, hc3, hld, hw, hw8, h80, hcv, hst]
    refine ih _ _ ⟨rfl, ?_⟩
    simp only [core, zrA, zrS, zrM, zrL, zrE, reduceCtorEq, zrD, ziE, ziL, ziN, hn, g3, g4, g8]
  · rintro t h hc2 ⟨rfl, hn, g3, g4, g8⟩
    have hc2 : ((4 : Int) < 4) = False := by decide
    have hc3 : (((4 : Nat) : Int) < 4) = False := by decide
    have e4 : ys.take 4 = ys := List.take_of_length_le (by omega)
    simp only [core, zrA, zrS, zrM, zrL, zrE, reduceCtorEq, zrD, ziE, ziL, ziN, hn, g3, g4, g8, hc2, hc3, e4]
    exact m
  · simp only [core, zrA, zrS, zrM, zrL, zrE, reduceCtorEq, zrD, ziE, ziL, ziN]
    simp [leN]
end Go.Proofs.Ytcnbamdmngaliaa.Ex
end

section

set_option linter.unusedSimpArgs false
set_option linter.unusedVariables false
set_option maxRecDepth 10000
set_option maxHeartbeats 4000000
namespace Go.Proofs.Ytcnbamdmngaliaa.Ex
open Go
theorem engZ : (match zeroT (tabOf Try.prog NT0) 125 with | some (.agg l) => freshE l && l.all AV.one | _ => false) = true := by kernel_rfl
theorem newEng_x {H : AH} : WC Try.prog (tabOf Try.prog NT0) S0 60 [] H fun r h' => ∃ l, freshE l = true ∧ r = .ptr H.n 0 ∧ h' = H.push (.cells l 125) := by
  refine WC_fn Try.func60 rfl rfl ?_
  obtain ⟨l, hz, hf, ho⟩ : ∃ l, zeroT (tabOf Try.prog NT0) 125 = some (.agg l) ∧ freshE l = true ∧ l.all AV.one = true := by
    have e := engZ
    split at e
    · rename_i l hl; rw [Bool.and_eq_true] at e; exact ⟨l, hl, e⟩
    · cases e
  simp only [core, zrA, zrS, zrM, zrL, zrE, reduceCtorEq, zrD, ziE, ziL, ziN, Try.ntmps60, hz, ho]
  exact ⟨l, hf, rfl⟩
theorem OwnB.app {n0 : Nat} {H : AH} {v x : AV} {xs ys : List UInt8} {F : Nat → Prop} (ho : OwnB n0 H v xs) (hx : IsSl RByte F H x ys) (hl : xs.length + ys.length ≤ 140737488355328) (hn0 : n0 ≤ H.n) :
    ∃ s' h', appendA (tabOf Try.prog NT0) H 22 22 v x = some (s', h') ∧ OwnB n0 h' s' (xs ++ ys) ∧ Ext n0 H h' := by
  obtain ⟨L, h1, h2, hc, h3⟩ := hx.out
  have hM : Els RByte (fun b => False ∧ Apart v b) H L ys := ⟨h3.1, fun i c x h1 h2 => h3.2 i c x h1 h2⟩
  obtain ⟨s', h', a1, a2, a3, a4⟩ := OwnL.append ho (T := tabOf Try.prog NT0) (t := 22) (tx := 22) (by kernel_rfl) (by kernel_rfl) (by kernel_rfl) (zv := .lit (.int .u8 0)) (by kernel_rfl) (by' := 1) (by kernel_rfl) rfl (by decide) (by decide) h1.src h1.len hM (by omega) (by omega) hn0
  exact ⟨s', h', a1, a2, a3⟩
/-- append([]byte{}, x...). -/
theorem fresh_bytes {F : Nat → Prop} {H : AH} {v : AV} {xs : List UInt8} {p : Nat} (hp : H.at p = some (.cells [] 5)) (hx : IsSl RByte F H v xs) (hl : xs.length ≤ 1000000000) :
    ∃ s' h', appendA (tabOf Try.prog NT0) H 22 22 (.sl p 0 0 (.kn 0)) v = some (s', h') ∧ Ext H.n H h' ∧ IsSl RByte (fun b => b = p ∨ H.n ≤ b) h' s' xs ∧ isNil s' = false := by
  obtain ⟨s', h', e0, e1, e2, e3, e4⟩ := fresh_append (T := tabOf Try.prog NT0) (t := 22) (by kernel_rfl) (by kernel_rfl) (zv := .lit (.int .u8 0)) (by kernel_rfl) (by' := 1) (by kernel_rfl) rfl (by decide) (by decide) hx (by omega) (by omega) hp
  exact ⟨s', h', e0, e1, e2.bytesF e3, e4⟩
end Go.Proofs.Ytcnbamdmngaliaa.Ex
end

section

set_option linter.unusedSimpArgs false
set_option linter.unusedVariables false
set_option maxRecDepth 10000
set_option maxHeartbeats 4000000
namespace Go.Proofs.Ytcnbamdmngaliaa.Ex
open Go
theorem and_tt {a b : Prop} [Decidable a] [Decidable b] (ha : a) (hb : b) : (decide a && decide b) = true := by simp [ha, hb]
theorem readD_x {H : AH} {d : Nat} {size base synced limit at_ n : Int} {v : AV} {xs : List UInt8} {F : Nat → Prop} (hd : H.at d = some (dkC size base v synced limit)) (h0 : 0 < size) (hb : 0 ≤ base ∧ base ≤ 4611686018427387904)
    (hv : IsSl RByte F H v xs) (hl : xs.length ≤ 67108864) (ha : base ≤ at_ ∧ at_ ≤ base + xs.length) (hn : 0 ≤ n ∧ n ≤ base + xs.length - at_) :
    WC Try.prog (tabOf Try.prog NT0) S0 49 [.ptr d 0, .lit (.int .i64 at_), .lit (.int .i64 n)] H fun r h' => Ext H.n H h' ∧ ∃ v', r = .tup [v', .lit (.int .i64 0)] ∧ OwnB H.n h' v' ((xs.drop (at_ - base).toNat).take n.toNat) := by
  refine WC_fn Try.func49 rfl rfl ?_
  have hd' := hd
  unfold dkC at hd
  have L := ld_at (T := tabOf Try.prog NT0) hd
  have l := at_lt hd
  have v1 := hv.isSl
  have v2 := hv.lenD
  have hcap : CapOk 1 v := by obtain ⟨L, -, -, hc, -⟩ := hv.out; exact hc
  have hw1 : IntKind.i64.wrap (base + (xs.length : Int) - at_) = base + xs.length - at_ := wrap_in (by omega) (by omega)
  have hw2 : IntKind.i64.wrap (at_ - base) = at_ - base := wrap_in (by omega) (by omega)
  have hw3 : IntKind.i64.wrap (at_ - base + n) = at_ - base + n := wrap_in (by omega) (by omega)
  have c1 : (n < 0) = False := by simp only [eq_iff_iff, iff_false]; omega
  have c2 : (base + (xs.length : Int) - at_ < n) = False := by simp only [eq_iff_iff, iff_false]; omega
  have c3 : (0 ≤ at_ - base) = True := by simp only [eq_iff_iff, iff_true]; omega
  have c4 : (at_ - base ≤ at_ - base + n) = True := by simp only [eq_iff_iff, iff_true]; omega
  have c5 : (at_ - base + n ≤ (xs.length : Int)) = True := by simp only [eq_iff_iff, iff_true]; omega
  have k1 := and_tt ha.1 ha.2
  simp only [core, zrA, zrS, zrM, zrL, zrE, reduceCtorEq, zrD, ziE, ziL, ziN, Try.ntmps49]
  refine (made_x hd' h0).mono ?_
  rintro _ h1 ⟨e1, rfl⟩
  replace e1 := e1.symm
  subst e1
  simp only [core, zrA, zrS, zrM, zrL, zrE, reduceCtorEq, zrD, ziE, ziL, ziN]
  refine (end_x hd' h0 v1 v2 hb (by omega)).mono ?_
  rintro _ h1 ⟨e1, rfl⟩
  replace e1 := e1.symm
  subst e1
  simp only [core, zrA, zrS, zrM, zrL, zrE, reduceCtorEq, zrD, ziE, ziL, ziN]
  refine (in_x hd').mono ?_
  rintro _ h1 ⟨e1, rfl⟩
  replace e1 := e1.symm
  subst e1
  simp only [core, zrA, zrS, zrM, zrL, zrE, reduceCtorEq, zrD, ziE, ziL, ziN, k1, c1]
  refine (end_x hd' h0 v1 v2 hb (by omega)).mono ?_
  rintro _ h1 ⟨e1, rfl⟩
  replace e1 := e1.symm
  subst e1
  simp only [core, zrA, zrS, zrM, zrL, zrE, reduceCtorEq, zrD, ziE, ziL, ziN, hw1, c2]
  rw [WB_regionD [0, 1, 2, 3, 4, 5, 6, 7, 8, 9, 10, 11, 12, 13, 14, 15, 16, 17, 18, 19, 20, 21] 24973979471131209393954760631714995610596617543623963145104261536225773856316617057284252548212083401518603845470763214242044620158451168095240192 (by kernel_rfl)]
  repeat ((with_reducible refine WDM_cons ?_; simp only [dw1]; try simp only [dw2, zrA, zrM, zrR, zrO, zrE]); simp only [core, zrA, zrS, zrM, zrL, zrE, reduceCtorEq, zrD, ziE, ziL, ziN, cored, L, l, v1, v2, hw2, hw3, c3, c4, c5, hcap])
  have hs := hv.sub (l := (at_ - base).toNat) (r := (at_ - base + n).toNat) (by omega) (by omega)
  have e1 : ((xs.take (at_ - base + n).toNat).drop (at_ - base).toNat) = (xs.drop (at_ - base).toNat).take n.toNat := by
    rw [List.take_drop, show (at_ - base).toNat + n.toNat = (at_ - base + n).toNat by omega]
  rw [e1] at hs
  have hlen : ((xs.drop (at_ - base).toNat).take n.toNat).length ≤ 67108864 := by rw [List.length_take, List.length_drop]; omega
  refine WOpD_app (OwnB.app (n0 := H.n) .nil hs (by simp only [List.length_nil]; omega) (Nat.le_refl _)) ?_
  rintro s' h' ⟨o, E⟩
  have hd2 := E.at l hd
  have L2 := ld_at (T := tabOf Try.prog NT0) hd2
  have l2 := at_lt hd2
  repeat ((with_reducible refine WDM_cons ?_; simp only [dw1]; try simp only [dw2, zrA, zrM, zrR, zrO, zrE]); simp only [core, zrA, zrS, zrM, zrL, zrE, reduceCtorEq, zrD, ziE, ziL, ziN, cored, L2, l2, v1, same_sl, same_int])
  exact ⟨E, _, rfl, o⟩
/-- What changes of a heap: the blocks of l, and no others. -/
structure Cg (l : List Nat) (H h' : AH) : Prop where
  n : H.n ≤ h'.n
  k : ∀ b, b < H.n → b ∉ l → h'.at b = H.at b
theorem Cg.refl {l : List Nat} {H : AH} : Cg l H H := ⟨Nat.le_refl _, fun _ _ _ => rfl⟩
theorem Cg.trans {l : List Nat} {H h1 h2 : AH} (a : Cg l H h1) (b : Cg l h1 h2) : Cg l H h2 := ⟨Nat.le_trans a.n b.n, fun k hk hl => (b.k k (Nat.lt_of_lt_of_le hk a.n) hl).trans (a.k k hk hl)⟩
theorem Cg.ext {l : List Nat} {H h : AH} (e : Ext H.n H h) : Cg l H h := ⟨e.1, fun b hb _ => e.2 b hb⟩
theorem Cg.put {l : List Nat} {H : AH} {d : Nat} (x : AB) (hd : d ∈ l) : Cg l H (H.put d x) := ⟨by rw [n_put]; exact Nat.le_refl _, fun b hb hl => at_put_ne _ (fun e => hl (e ▸ hd))⟩
theorem Mod.cg {l : List Nat} {d : Nat} {x : AB} {H h : AH} (m : Mod d x H h) (hd : d ∈ l) : Cg l H h := ⟨by rw [m.n]; exact Nat.le_refl _, fun b hb hl => m.ne b (fun e => hl (e ▸ hd))⟩
theorem VwB.putLt {n0 p : Nat} {h : AH} {v : AV} {xs : List UInt8} (ho : VwB n0 h v xs) (hp : p < n0) (x : AB) : VwB n0 (h.put p x) v xs := ho.lift fun b off n cap e => at_put_ne _ (by have := ho.lt _ _ _ _ e; omega)
theorem Mod.trans {d : Nat} {x y : AB} {H h h2 : AH} (a : Mod d x H h) (b : Mod d y h h2) : Mod d y H h2 := ⟨b.n.trans a.n, b.at_, fun k hk => (b.ne k hk).trans (a.ne k hk)⟩
theorem sl3_isSl {k : Nat} {v : AV} (hv : isSl v = true) : isSl (sl3 k v) = true := by
  obtain ⟨n, ⟨rfl, _⟩ | ⟨b, off, cap, rfl⟩⟩ := SlN.of hv <;> rfl
theorem cutD_x {H : AH} {d : Nat} {size base synced limit at_ : Int} {v : AV} {xs : List UInt8} {F : Nat → Prop} (hd : H.at d = some (dkC size base v synced limit)) (h0 : 0 < size) (hb : 0 ≤ base ∧ base ≤ 4611686018427387904)
    (hv : IsSl RByte F H v xs) (hl : xs.length ≤ 67108864) (ha : base ≤ at_ ∧ at_ ≤ base + xs.length) (hm : limit < 0) :
    WC Try.prog (tabOf Try.prog NT0) S0 51 [.ptr d 0, .lit (.int .i64 at_)] H fun r h' => r = .lit (.int .i64 0) ∧ Mod d (dkC size base (sl3 (at_ - base).toNat v) (if at_ < synced then at_ else synced) limit) H h' := by
  refine WC_fn Try.func51 rfl rfl ?_
  have hd' := hd
  unfold dkC at hd
  have L := ld_at (T := tabOf Try.prog NT0) hd
  have l := at_lt hd
  have v1 := hv.isSl
  have v2 := hv.lenD
  have hcap : CapOk 1 v := by obtain ⟨L, -, -, hc, -⟩ := hv.out; exact hc
  have k1 := and_tt ha.1 ha.2
  have k2 : (decide (0 ≤ limit) && decide (limit < base + (xs.length : Int))) = false := by
    rw [Bool.and_eq_false_iff, decide_eq_false_iff_not, decide_eq_false_iff_not]
    omega
  have hw2 : IntKind.i64.wrap (at_ - base) = at_ - base := wrap_in (by omega) (by omega)
  have c3 : (0 ≤ at_ - base) = True := by simp only [eq_iff_iff, iff_true]; omega
  have c5 : (at_ - base ≤ (xs.length : Int)) = True := by simp only [eq_iff_iff, iff_true]; omega
  have z1 := sl3_isSl (k := (at_ - base).toNat) v1
  have z2 : (sl3 (at_ - base).toNat v).one = true := (SlN.of z1).elim fun _ h => h.one
  simp only [core, zrA, zrS, zrM, zrL, zrE, reduceCtorEq, zrD, ziE, ziL, ziN, Try.ntmps51]
  refine (made_x hd' h0).mono ?_
  rintro _ h1 ⟨e1, rfl⟩
  replace e1 := e1.symm
  subst e1
  simp only [core, zrA, zrS, zrM, zrL, zrE, reduceCtorEq, zrD, ziE, ziL, ziN]
  refine (end_x hd' h0 v1 v2 hb (by omega)).mono ?_
  rintro _ h1 ⟨e1, rfl⟩
  replace e1 := e1.symm
  subst e1
  simp only [core, zrA, zrS, zrM, zrL, zrE, reduceCtorEq, zrD, ziE, ziL, ziN]
  refine (in_x hd').mono ?_
  rintro _ h1 ⟨e1, rfl⟩
  replace e1 := e1.symm
  subst e1
  simp only [core, zrA, zrS, zrM, zrL, zrE, reduceCtorEq, zrD, ziE, ziL, ziN, k1]
  refine (frozen_x hd' h0 v1 v2 hb (by omega)).mono ?_
  rintro _ h1 ⟨e1, rfl⟩
  replace e1 := e1.symm
  subst e1
  simp only [core, zrA, zrS, zrM, zrL, zrE, reduceCtorEq, zrD, ziE, ziL, ziN, k2]
  rw [WB_regionD [0, 1, 2, 3, 4, 5, 6, 7, 8, 9, 10, 11, 12, 13, 14, 15, 16, 17, 18, 19, 20] 2839211736014648557665758718379883074270402574390520616351020571029677543792888199122739727839691877431788753240062496165858990096384 (by kernel_rfl)]
  repeat ((with_reducible refine WDM_cons ?_; simp only [dw1]; try simp only [dw2, zrA, zrM, zrR, zrO, zrE]); simp only [core, zrA, zrS, zrM, zrL, zrE, reduceCtorEq, zrD, ziE, ziL, ziN, cored, L, l, hd, v1, v2, hw2, c3, c5, hcap, a_sl3, slM3, z1, z2, same_sl, same_int, Int.le_refl, Int.toNat_natCast])
  exact (Mod.put _ hd').trans (.put _ (at_put l))
end Go.Proofs.Ytcnbamdmngaliaa.Ex
end

section

set_option linter.unusedSimpArgs false
set_option linter.unusedVariables false
set_option maxRecDepth 10000
set_option maxHeartbeats 4000000
namespace Go.Proofs.Ytcnbamdmngaliaa.Ex
open Go
theorem VwB.fresh {n0 p : Nat} {h : AH} (hp : h.at p = some (.cells [] 5)) (hn : n0 ≤ p) : VwB n0 h (.sl p 0 0 (.kn 0)) [] := .inr ⟨p, [], .kn 0, rfl, hn, hp, rfl, .inr rfl⟩
theorem VwB.sl {n0 : Nat} {h : AH} {v : AV} {xs : List UInt8} (ho : VwB n0 h v xs) : IsSl RByte (fun b => n0 ≤ b) h v xs := ho.toSl fun b off n cap e => (ho.lt _ _ _ _ e).1
theorem IsSl.putLt {n0 p : Nat} {h : AH} {v : AV} {xs : List UInt8} (ho : IsSl RByte (fun b => n0 ≤ b) h v xs) (hp : p < n0) (x : AB) : IsSl RByte (fun b => n0 ≤ b) (h.put p x) v xs := ho.lift fun b hb hlt => ⟨at_put_ne _ (by omega), hb⟩
theorem appendE_x {H : AH} {d : Nat} {size base synced limit : Int} {v x : AV} {xs ys : List UInt8} {F G : Nat → Prop} (hd : H.at d = some (ekC size base v synced limit)) (h0 : 0 < size) (hs : size ≤ 67108864) (hb : 0 ≤ base ∧ base ≤ 4611686018427387904)
    (hv : IsSl RByte G H v xs) (hl : (xs.length : Int) ≤ size) (hx : IsSl RByte F H x ys) (hy : ys.length ≤ 1000000000) :
    WC Try.prog (tabOf Try.prog NT0) S0 10 [.ptr d 0, x] H fun r h' => if size - xs.length < ys.length then h' = H ∧ r = .tup [.lit (.int .i64 0), .lit (.int .i64 28)]
      else r = .tup [.lit (.int .i64 (base + xs.length)), .lit (.int .i64 0)] ∧ Cg [d] H h' ∧ ∃ v', h'.at d = some (ekC size base v' synced limit) ∧ IsSl RByte (fun b => H.n ≤ b) h' v' (xs ++ ys) := by
  refine WC_fn Try.func10 rfl rfl ?_
  have hd' := hd
  unfold ekC at hd
  have L := ld_at (T := tabOf Try.prog NT0) hd
  have l := at_lt hd
  have v1 := hv.isSl
  have v2 := hv.lenD
  have x1 := hx.isSl
  have x2 := hx.lenD
  have hw : IntKind.i64.wrap (size - (xs.length : Int)) = size - xs.length := wrap_in (by omega) (by omega)
  simp only [core, zrA, zrS, zrM, zrL, zrE, reduceCtorEq, zrD, ziE, ziL, ziN, Try.ntmps10]
  by_cases c : size - (xs.length : Int) < ys.length
  · simp only [if_pos c]
    rw [WB_regionD [0, 1, 2, 3, 4, 5, 6, 7, 8, 9, 10, 11, 12] 374075867972729593563154991592821759488596599906304 (by kernel_rfl)]
    repeat ((with_reducible refine WDM_cons ?_; simp only [dw1]; try simp only [dw2, zrA, zrM, zrR, zrO, zrE]); simp only [core, zrA, zrS, zrM, zrL, zrE, reduceCtorEq, zrD, ziE, ziL, ziN, cored, L, l, v1, v2, x1, x2, hw, c])
    try simp
  · simp only [if_neg c]
    rw [WB_regionD [0, 1, 2, 3, 4, 5, 6, 7, 8, 9, 10, 11, 12] 374075867972729593563154991592821759488596599906304 (by kernel_rfl)]
    repeat ((with_reducible refine WDM_cons ?_; simp only [dw1]; try simp only [dw2, zrA, zrM, zrR, zrO, zrE]); simp only [core, zrA, zrS, zrM, zrL, zrE, reduceCtorEq, zrD, ziE, ziL, ziN, cored, L, l, v1, v2, x1, x2, hw, c])
    refine (endE_x hd' v1 v2 hb (by omega)).mono ?_
    rintro _ h1 ⟨e1, rfl⟩
    replace e1 := e1.symm
    subst e1
    simp only [core, zrA, zrS, zrM, zrL, zrE, reduceCtorEq, zrD, ziE, ziL, ziN, L, l]
    obtain ⟨h4, hh4⟩ : ∃ h4, h4 = H.push (.cells [] 5) := ⟨_, rfl⟩
    have E34 : Ext H.n H h4 := hh4 ▸ (Ext.refl H.n H).push _ (Nat.le_refl _)
    have A4 : h4.at H.n = some (.cells [] 5) := hh4 ▸ at_push_n _ _
    have hn4 : h4.n = H.n + 1 := hh4 ▸ n_push _ _
    rw [← hh4]
    refine WOp_app ((VwB.fresh A4 (Nat.le_refl _)).app (hv.ext E34 (Nat.le_refl _)) (by simp only [List.length_nil]; omega) (by omega)) ?_
    rintro s5 h5 ⟨V5, -, E5⟩
    rw [List.nil_append] at V5
    have E5 := E34.trans E5
    simp only [core, zrA, zrS, zrM, zrL, zrE, reduceCtorEq, zrD, ziE, ziL, ziN]
    refine WOp_app (V5.app (hx.ext E5 (Nat.le_refl _)) (by omega) E5.1) ?_
    rintro s6 h6 ⟨V6, -, E6⟩
    have E6 := E5.trans E6
    have hd6 := E6.at l hd
    have l6 := at_lt hd6
    have z1 := V6.one
    simp only [core, zrA, zrS, zrM, zrL, zrE, reduceCtorEq, zrD, ziE, ziL, ziN, hd6, l6, z1]
    exact ⟨(Cg.ext E6).trans (.put _ (by simp)), s6, rfl, V6.sl.putLt l _⟩
theorem readE_x {H : AH} {d : Nat} {size base synced limit at_ n : Int} {v : AV} {xs : List UInt8} {F : Nat → Prop} (hd : H.at d = some (ekC size base v synced limit)) (hb : 0 ≤ base ∧ base ≤ 4611686018427387904)
    (hv : IsSl RByte F H v xs) (hl : xs.length ≤ 67108864) (ha : base ≤ at_ ∧ at_ ≤ base + xs.length) (hn : 0 ≤ n ∧ n ≤ base + xs.length - at_) :
    WC Try.prog (tabOf Try.prog NT0) S0 54 [.ptr d 0, .lit (.int .i64 at_), .lit (.int .i64 n)] H fun r h' => Ext H.n H h' ∧ ∃ v', r = .tup [v', .lit (.int .i64 0)] ∧ IsSl RByte (fun b => H.n ≤ b) h' v' ((xs.drop (at_ - base).toNat).take n.toNat) := by
  refine WC_fn Try.func54 rfl rfl ?_
  have hd' := hd
  unfold ekC at hd
  have L := ld_at (T := tabOf Try.prog NT0) hd
  have l := at_lt hd
  have v1 := hv.isSl
  have v2 := hv.lenD
  have hcap : CapOk 1 v := by obtain ⟨L, -, -, hc, -⟩ := hv.out; exact hc
  have hw1 : IntKind.i64.wrap (base + (xs.length : Int) - at_) = base + xs.length - at_ := wrap_in (by omega) (by omega)
  have hw2 : IntKind.i64.wrap (at_ - base) = at_ - base := wrap_in (by omega) (by omega)
  have hw3 : IntKind.i64.wrap (at_ - base + n) = at_ - base + n := wrap_in (by omega) (by omega)
  have c0 : (at_ < base) = False := by simp only [eq_iff_iff, iff_false]; omega
  have c0' : (base + (xs.length : Int) < at_) = False := by simp only [eq_iff_iff, iff_false]; omega
  have c1 : (n < 0) = False := by simp only [eq_iff_iff, iff_false]; omega
  have c2 : (base + (xs.length : Int) - at_ < n) = False := by simp only [eq_iff_iff, iff_false]; omega
  have c3 : (0 ≤ at_ - base) = True := by simp only [eq_iff_iff, iff_true]; omega
  have c4 : (at_ - base ≤ at_ - base + n) = True := by simp only [eq_iff_iff, iff_true]; omega
  have c5 : (at_ - base + n ≤ (xs.length : Int)) = True := by simp only [eq_iff_iff, iff_true]; omega
  simp only [core, zrA, zrS, zrM, zrL, zrE, reduceCtorEq, zrD, ziE, ziL, ziN, Try.ntmps54, L, l, c0]
  refine (endE_x hd' v1 v2 hb (by omega)).mono ?_
  rintro _ h1 ⟨e1, rfl⟩
  replace e1 := e1.symm
  subst e1
  simp only [core, zrA, zrS, zrM, zrL, zrE, reduceCtorEq, zrD, ziE, ziL, ziN, c0', c1]
  refine (endE_x hd' v1 v2 hb (by omega)).mono ?_
  rintro _ h1 ⟨e1, rfl⟩
  replace e1 := e1.symm
  subst e1
  simp only [core, zrA, zrS, zrM, zrL, zrE, reduceCtorEq, zrD, ziE, ziL, ziN, hw1, c2]
  rw [WB_regionD [0, 1, 2, 3, 4, 5, 6, 7, 8, 9, 10, 11, 12, 13, 14, 15, 16, 17, 18, 19, 20, 21, 22] 878693943373947012260230268303598673599023874525668062621169877361309946318519148021826180794443950023563267286462265666161183624897629921259403297464447401984 (by kernel_rfl)]
  repeat ((with_reducible refine WDM_cons ?_; simp only [dw1]; try simp only [dw2, zrA, zrM, zrR, zrO, zrE]); simp only [core, zrA, zrS, zrM, zrL, zrE, reduceCtorEq, zrD, ziE, ziL, ziN, cored, L, l, v1, v2, hw2, hw3, c3, c4, c5, hcap])
  have hs := hv.sub (l := (at_ - base).toNat) (r := (at_ - base + n).toNat) (by omega) (by omega)
  have e1 : ((xs.take (at_ - base + n).toNat).drop (at_ - base).toNat) = (xs.drop (at_ - base).toNat).take n.toNat := by
    rw [List.take_drop, show (at_ - base).toNat + n.toNat = (at_ - base + n).toNat by omega]
  rw [e1] at hs
  have hlen : ((xs.drop (at_ - base).toNat).take n.toNat).length ≤ 67108864 := by rw [List.length_take, List.length_drop]; omega
  obtain ⟨h4, hh4⟩ : ∃ h4, h4 = H.push (.cells [] 5) := ⟨_, rfl⟩
  have E34 : Ext H.n H h4 := hh4 ▸ (Ext.refl H.n H).push _ (Nat.le_refl _)
  have A4 : h4.at H.n = some (.cells [] 5) := hh4 ▸ at_push_n _ _
  have hn4 : h4.n = H.n + 1 := hh4 ▸ n_push _ _
  rw [← hh4]
  refine WOpD_app ((VwB.fresh A4 (Nat.le_refl _)).app (hs.ext E34 (Nat.le_refl _)) (by simp only [List.length_nil]; omega) (by omega)) ?_
  rintro s' h' ⟨V5, -, E5⟩
  rw [List.nil_append] at V5
  have E := E34.trans E5
  have hd2 := E.at l hd
  have L2 := ld_at (T := tabOf Try.prog NT0) hd2
  have l2 := at_lt hd2
  repeat ((with_reducible refine WDM_cons ?_; simp only [dw1]; try simp only [dw2, zrA, zrM, zrR, zrO, zrE]); simp only [core, zrA, zrS, zrM, zrL, zrE, reduceCtorEq, zrD, ziE, ziL, ziN, cored, L2, l2, v1, same_sl, same_int])
  exact ⟨E, _, rfl, V5.sl⟩
theorem cutE_x {H : AH} {d : Nat} {size base synced limit at_ : Int} {v : AV} {xs : List UInt8} {F : Nat → Prop} (hd : H.at d = some (ekC size base v synced limit)) (hb : 0 ≤ base ∧ base ≤ 4611686018427387904)
    (hv : IsSl RByte F H v xs) (hl : xs.length ≤ 67108864) (ha : base ≤ at_ ∧ at_ ≤ base + xs.length) (hm : limit < 0) :
    WC Try.prog (tabOf Try.prog NT0) S0 52 [.ptr d 0, .lit (.int .i64 at_)] H fun r h' => r = .lit (.int .i64 0) ∧ Cg [d] H h' ∧ ∃ v', h'.at d = some (ekC size base v' (if at_ < synced then at_ else synced) limit) ∧ IsSl RByte (fun b => H.n ≤ b) h' v' (xs.take (at_ - base).toNat) := by
  refine WC_fn Try.func52 rfl rfl ?_
  have hd' := hd
  unfold ekC at hd
  have L := ld_at (T := tabOf Try.prog NT0) hd
  have l := at_lt hd
  have v1 := hv.isSl
  have v2 := hv.lenD
  have hcap : CapOk 1 v := by obtain ⟨L, -, -, hc, -⟩ := hv.out; exact hc
  have c0 : (at_ < base) = False := by simp only [eq_iff_iff, iff_false]; omega
  have c0' : (base + (xs.length : Int) < at_) = False := by simp only [eq_iff_iff, iff_false]; omega
  have k2 : (decide (0 ≤ limit) && decide (limit < base + (xs.length : Int))) = false := by
    rw [Bool.and_eq_false_iff, decide_eq_false_iff_not, decide_eq_false_iff_not]
    omega
  have hw2 : IntKind.i64.wrap (at_ - base) = at_ - base := wrap_in (by omega) (by omega)
  have c3 : (0 ≤ at_ - base) = True := by simp only [eq_iff_iff, iff_true]; omega
  have c5 : (at_ - base ≤ (xs.length : Int)) = True := by simp only [eq_iff_iff, iff_true]; omega
  simp only [core, zrA, zrS, zrM, zrL, zrE, reduceCtorEq, zrD, ziE, ziL, ziN, Try.ntmps52, L, l, c0]
  refine (endE_x hd' v1 v2 hb (by omega)).mono ?_
  rintro _ h1 ⟨e1, rfl⟩
  replace e1 := e1.symm
  subst e1
  simp only [core, zrA, zrS, zrM, zrL, zrE, reduceCtorEq, zrD, ziE, ziL, ziN, c0']
  refine (frozenE_x hd' v1 v2 hb (by omega)).mono ?_
  rintro _ h1 ⟨e1, rfl⟩
  replace e1 := e1.symm
  subst e1
  simp only [core, zrA, zrS, zrM, zrL, zrE, reduceCtorEq, zrD, ziE, ziL, ziN, k2]
  rw [WB_regionD [0, 1, 2, 3, 4, 5, 6, 7, 8, 9, 10, 11, 12, 13, 14, 15, 16] 497317544946356996437003369024153854240367161207018835259655062838273989117449466806272 (by kernel_rfl)]
  repeat ((with_reducible refine WDM_cons ?_; simp only [dw1]; try simp only [dw2, zrA, zrM, zrR, zrO, zrE]); simp only [core, zrA, zrS, zrM, zrL, zrE, reduceCtorEq, zrD, ziE, ziL, ziN, cored, L, l, v1, v2, hw2, c3, c5, hcap, Int.le_refl, Int.toNat_natCast])
  have hs := hv.sub (l := 0) (r := (at_ - base).toNat) (Nat.zero_le _) (by omega)
  rw [List.drop_zero] at hs
  have hlen : (xs.take (at_ - base).toNat).length ≤ 67108864 := by rw [List.length_take]; omega
  obtain ⟨h4, hh4⟩ : ∃ h4, h4 = H.push (.cells [] 5) := ⟨_, rfl⟩
  have E34 : Ext H.n H h4 := hh4 ▸ (Ext.refl H.n H).push _ (Nat.le_refl _)
  have A4 : h4.at H.n = some (.cells [] 5) := hh4 ▸ at_push_n _ _
  have hn4 : h4.n = H.n + 1 := hh4 ▸ n_push _ _
  rw [← hh4]
  refine WOpD_app ((VwB.fresh A4 (Nat.le_refl _)).app (hs.ext E34 (Nat.le_refl _)) (by simp only [List.length_nil]; omega) (by omega)) ?_
  rintro s' h' ⟨V5, -, E5⟩
  rw [List.nil_append] at V5
  have E := E34.trans E5
  have hd2 := E.at l hd
  have L2 := ld_at (T := tabOf Try.prog NT0) hd2
  have l2 := at_lt hd2
  have z1 := V5.isSl
  have z2 := V5.one
  by_cases c6 : at_ < synced
  · simp only [if_pos c6]
    repeat ((with_reducible refine WDM_cons ?_; simp only [dw1]; try simp only [dw2, zrA, zrM, zrR, zrO, zrE]); simp only [core, zrA, zrS, zrM, zrL, zrE, reduceCtorEq, zrD, ziE, ziL, ziN, cored, L2, l2, hd2, v1, z1, z2, c6, same_sl, same_int])
    exact ⟨((Cg.ext E).trans (.put _ (by simp))).trans (.put _ (by simp)), s', rfl, (V5.sl.putLt l _).putLt l _⟩
  · simp only [if_neg c6]
    repeat ((with_reducible refine WDM_cons ?_; simp only [dw1]; try simp only [dw2, zrA, zrM, zrR, zrO, zrE]); simp only [core, zrA, zrS, zrM, zrL, zrE, reduceCtorEq, zrD, ziE, ziL, ziN, cored, L2, l2, hd2, v1, z1, z2, c6, same_sl, same_int])
    exact ⟨(Cg.ext E).trans (.put _ (by simp)), s', rfl, V5.sl.putLt l _⟩
end Go.Proofs.Ytcnbamdmngaliaa.Ex
end

section

set_option linter.unusedSimpArgs false
set_option linter.unusedVariables false
set_option maxRecDepth 10000
set_option maxHeartbeats 4000000
namespace Go.Proofs.Ytcnbamdmngaliaa.Ex
open Go
theorem Mod.ext {n0 d : Nat} {x : AB} {H h' : AH} (m : Mod d x H h') (hd : n0 ≤ d) : Ext n0 H h' := ⟨by rw [m.n]; exact Nat.le_refl _, fun b hb => m.ne b (by omega)⟩
/-- What Unframe gives. -/
def UnfO (n0 : Nat) (h : AH) (u : List UInt8 × Nat × Nat) (r : AV) : Prop := ∃ s, r = .tup [s, .lit (.int .i64 (u.2.1 : Int)), .lit (.int .i64 (u.2.2 : Int))] ∧ IsSl RByte (fun b => n0 ≤ b) h s u.1
theorem unframe_x {H : AH} {v : AV} {bs : List UInt8} {F : Nat → Prop} (hv : IsSl RByte F H v bs) (hl : bs.length ≤ 1000000000) :
    WC Try.prog (tabOf Try.prog NT0) S0 50 [v] H fun r h' => Ext H.n H h' ∧ UnfO H.n h' (unfr bs) r := by
  refine WC_fn Try.func50 rfl rfl ?_
  have v1 := hv.isSl
  have v2 := hv.lenD
  by_cases c8 : bs.length < 8
  · have c8i : ((bs.length : Int) < 8) = True := by simp only [eq_iff_iff, iff_true]; omega
    have hu : unfr bs = ([], 0, 11) := by unfold unfr; rw [if_pos c8]
    rw [hu]
    simp only [core, zrA, zrS, zrM, zrL, zrE, reduceCtorEq, zrD, ziE, ziL, ziN, Try.ntmps50, v1, v2, c8i]
    exact ⟨Ext.refl _ _, _, rfl, .bytesNil⟩
  have c8i : ((bs.length : Int) < 8) = False := by simp only [eq_iff_iff, iff_false]; omega
  have w1 := hv.one
  simp only [core, zrA, zrS, zrM, zrL, zrE, reduceCtorEq, zrD, ziE, ziL, ziN, Try.ntmps50, v1, v2, c8i, w1]
  obtain ⟨h1, hh1⟩ : ∃ h1, h1 = H.push (cdC v) := ⟨_, rfl⟩
  have E1 : Ext H.n H h1 := hh1 ▸ (Ext.refl _ _).push _ (Nat.le_refl _)
  have A1 : h1.at H.n = some (cdC v) := hh1 ▸ at_push_n _ _
  have hn1 : h1.n = H.n + 1 := hh1 ▸ n_push _ _
  unfold cdC at hh1
  rw [← hh1]
  clear hh1
  have hv1 := hv.ext E1 (Nat.le_refl _)
  refine (word_x A1 hv1 (by omega) hl).mono ?_
  rintro _ h2 ⟨rfl, m2⟩
  have E2 : Ext H.n H h2 := E1.trans (m2.ext (Nat.le_refl _))
  have hs2 : IsSl RByte F h2 (subSl 1 4 bs.length v) (bs.drop 4) := by
    have := (hv.sub (l := 4) (r := bs.length) (by omega) (Nat.le_refl _)).ext E2 (Nat.le_refl _)
    rw [List.take_length] at this
    exact this
  have hn2 : h2.n = H.n + 1 := m2.n.trans hn1
  have N1 : leN (bs.take 4) < 4294967296 := by
    have := leN_lt (bs.take 4)
    rw [List.length_take, Nat.min_eq_left (by omega)] at this
    exact this
  have hc1 : IntKind.i64.wrap ((leN (bs.take 4) : Nat) : Int) = ((leN (bs.take 4) : Nat) : Int) := wrap_in (by omega) (by omega)
  simp only [core, zrA, zrS, zrM, zrL, zrE, reduceCtorEq, zrD, ziE, ziL, ziN, hc1]
  refine (word_x m2.at_ hs2 (by rw [List.length_drop]; omega) (by rw [List.length_drop]; omega)).mono ?_
  rintro _ h3 ⟨rfl, m3⟩
  have E3 : Ext H.n H h3 := E2.trans (m3.ext (Nat.le_refl _))
  have hl8 : (bs.drop 8).length = bs.length - 8 := by rw [List.length_drop]
  have hs3 : IsSl RByte F h3 (subSl 1 4 (bs.drop 4).length (subSl 1 4 bs.length v)) (bs.drop 8) := by
    have s1 := hv.sub (l := 4) (r := bs.length) (by omega) (Nat.le_refl _)
    rw [List.take_length] at s1
    have := (s1.sub (l := 4) (r := (bs.drop 4).length) (by rw [List.length_drop]; omega) (Nat.le_refl _)).ext E3 (Nat.le_refl _)
    rw [List.take_length, List.drop_drop] at this
    exact this
  have A3 := m3.at_
  have hn3 : h3.n = H.n + 1 := m3.n.trans hn2
  obtain ⟨w, hw⟩ : ∃ w, w = subSl 1 4 (bs.drop 4).length (subSl 1 4 bs.length v) := ⟨_, rfl⟩
  rw [← hw] at hs3 A3
  clear hw m3
  obtain ⟨n, hn⟩ : ∃ n, n = leN (bs.take 4) := ⟨_, rfl⟩
  obtain ⟨sm, hsm⟩ : ∃ sm, sm = leN ((bs.drop 4).take 4) := ⟨_, rfl⟩
  obtain ⟨xs, hxs⟩ : ∃ xs, xs = bs.drop 8 := ⟨_, rfl⟩
  have N2 : sm < 4294967296 := by
    have := leN_lt ((bs.drop 4).take 4)
    rw [List.length_take, List.length_drop, Nat.min_eq_left (by omega), ← hsm] at this
    exact this
  have hu : unfr bs = if 524288 < n then ([], 0, 27) else if xs.length < n then ([], 0, 11) else if crcN (xs.take n) ≠ sm then ([], 0, 74) else (xs.take n, n + 8, 0) := by
    unfold unfr
    rw [if_neg c8, hn, hsm, hxs]
  rw [hu]
  rw [← hn] at N1 ⊢
  rw [← hsm]
  rw [← hxs] at hs3
  have hc2 : IntKind.u32.wrap (sm : Int) = (sm : Int) := wrap_u32 (by omega) (by omega)
  have z1 := hs3.isSl
  have z2 := hs3.lenD
  unfold cdC at A3
  have L3 := ld_at (T := tabOf Try.prog NT0) A3
  have l3 := at_lt A3
  have hcap : CapOk 1 w := by obtain ⟨L, -, -, hc, -⟩ := hs3.out; exact hc
  by_cases c1 : 524288 < n
  · have c1i : ((524288 : Int) < (n : Int)) = True := by simp only [eq_iff_iff, iff_true]; omega
    rw [if_pos c1]
    simp only [core, zrA, zrS, zrM, zrL, zrE, reduceCtorEq, zrD, ziE, ziL, ziN, hc2, c1i]
    exact ⟨E3, _, rfl, .bytesNil⟩
  have c1i : ((524288 : Int) < (n : Int)) = False := by simp only [eq_iff_iff, iff_false]; omega
  rw [show (if 524288 < n then (([] : List UInt8), 0, 27) else if xs.length < n then ([], 0, 11) else if crcN (xs.take n) ≠ sm then ([], 0, 74) else (xs.take n, n + 8, 0)) = if xs.length < n then ([], 0, 11) else if crcN (xs.take n) ≠ sm then ([], 0, 74) else (xs.take n, n + 8, 0) from if_neg c1]
  by_cases c2 : xs.length < n
  · have c2i : ((xs.length : Int) < (n : Int)) = True := by simp only [eq_iff_iff, iff_true]; omega
    rw [if_pos c2]
    simp only [core, zrA, zrS, zrM, zrL, zrE, reduceCtorEq, zrD, ziE, ziL, ziN, hc2, c1i, L3, l3, z1, z2, c2i]
    exact ⟨E3, _, rfl, .bytesNil⟩
  have c2i : ((xs.length : Int) < (n : Int)) = False := by simp only [eq_iff_iff, iff_false]; omega
  have c2j : ((n : Int) ≤ (xs.length : Int)) = True := by simp only [eq_iff_iff, iff_true]; omega
  have c0j : ((0 : Int) ≤ (n : Int)) = True := by simp only [eq_iff_iff, iff_true]; omega
  rw [show (if xs.length < n then (([] : List UInt8), 0, 11) else if crcN (xs.take n) ≠ sm then ([], 0, 74) else (xs.take n, n + 8, 0)) = if crcN (xs.take n) ≠ sm then ([], 0, 74) else (xs.take n, n + 8, 0) from if_neg c2]
  have hs4 : IsSl RByte F h3 (subSl 1 0 n w) (xs.take n) := by
    have := hs3.sub (l := 0) (r := n) (Nat.zero_le _) (by omega)
    rw [List.drop_zero] at this
    exact this
  have y1 := hs4.isSl
  simp only [core, zrA, zrS, zrM, zrL, zrE, reduceCtorEq, zrD, ziE, ziL, ziN, hc2, c1i, L3, l3, z1, z2, c2i]
  rw [WB_regionD [1, 2, 3, 4, 5, 6, 8, 0, 7, 9, 10] 1328253806317836750787915704136892416 (by kernel_rfl)]
  repeat ((with_reducible refine WDM_cons ?_; simp only [dw1]; try simp only [dw2, zrA, zrM, zrR, zrO, zrE]); simp only [core, zrA, zrS, zrM, zrL, zrE, reduceCtorEq, zrD, ziE, ziL, ziN, cored, L3, l3, z1, z2, c2j, c0j, hcap, Int.le_refl, Int.toNat_natCast])
  refine newEng_x.mono ?_
  rintro _ h4 ⟨l, hf, rfl, hh4⟩
  have E4 : Ext H.n H h4 := hh4 ▸ E3.push _ (by omega)
  have A4 : h4.at h3.n = some (.cells l 125) := hh4 ▸ at_push_n _ _
  have A3' : h4.at H.n = some (.cells [.lit (.slice none 0 0), w, .lit (.bool true)] 100) := by rw [hh4, at_push_lt _ (by omega)]; exact A3
  have hn4 : h4.n = H.n + 2 := by rw [hh4, n_push, hn3]
  have E34 : Ext h3.n h3 h4 := hh4 ▸ (Ext.refl h3.n h3).push _ (Nat.le_refl _)
  have hs5 : IsSl RByte F h4 (subSl 1 0 n w) (xs.take n) := hs4.ext E34 (Nat.le_refl _)
  have hap : apartOf h3.n (subSl 1 0 n w) = true := by
    rcases hs4.bytesRow with ⟨e, -⟩ | ⟨b, off, cap, row, e, -, h4, -, -⟩
    · rw [e]; rfl
    · have := getR_lt h4
      rw [e]
      show (!Nat.beq h3.n b) = true
      rw [show Nat.beq h3.n b = false by rw [← Bool.not_eq_true, Nat.beq_eq]; omega]
      rfl
  clear hh4
  have L4 := ld_at (T := tabOf Try.prog NT0) A3'
  have l4 := at_lt A3'
  repeat ((with_reducible refine WDM_cons ?_; simp only [dw1]; try simp only [dw2, zrA, zrM, zrR, zrO, zrE]); simp only [core, zrA, zrS, zrM, zrL, zrE, reduceCtorEq, zrD, ziE, ziL, ziN, cored, L4, l4, z1, z2, c2j, c0j, hcap, Int.le_refl, Int.toNat_natCast])
  refine crcP_c hs5.bytesOf A4 hf hap (by rw [List.length_take]; omega) ?_
  obtain ⟨h5, hh5⟩ : ∃ h5, h5 = h4.put h3.n .gone := ⟨_, rfl⟩
  have E5 : Ext H.n H h5 := hh5 ▸ E4.put _ (by omega)
  have A5 : h5.at H.n = some (.cells [.lit (.slice none 0 0), w, .lit (.bool true)] 100) := by rw [hh5, at_put_ne _ (by omega)]; exact A3'
  have hs6 : IsSl RByte F h5 (subSl 1 0 n w) (xs.take n) := hs4.ext (hh5 ▸ E34.put _ (Nat.le_refl _)) (Nat.le_refl _)
  rw [← hh5]
  have L5 := ld_at (T := tabOf Try.prog NT0) A5
  have l5 := at_lt A5
  have q1 : AV.same 8 w w = true := same_sl z1
  by_cases c3 : crcN (xs.take n) = sm
  · have c3b : (((crcN (xs.take n) : Nat) : Int) != (sm : Int)) = false := by rw [c3]; exact bne_self_eq_false _
    have hw8 : IntKind.i64.wrap ((n : Int) + 8) = ((n + 8 : Nat) : Int) := (wrap_in (by omega) (by omega)).trans (by omega)
    rw [if_neg (fun h => h c3)]
    repeat ((with_reducible refine WDM_cons ?_; simp only [dw1]; try simp only [dw2, zrA, zrM, zrR, zrO, zrE]); simp only [core, zrA, zrS, zrM, zrL, zrE, reduceCtorEq, zrD, ziE, ziL, ziN, cored, L5, l5, z1, z2, c2j, c0j, hcap, c3b, q1, Int.le_refl, Int.toNat_natCast])
    refine WOp_app (VwB.app (n0 := H.n) .nil hs6 (by rw [List.length_take]; simp; omega) E5.1) ?_
    rintro s6 h6 ⟨V6, -, E6⟩
    simp only [core, zrA, zrS, zrM, zrL, zrE, reduceCtorEq, zrD, ziE, ziL, ziN, hw8]
    exact ⟨E5.trans E6, _, rfl, V6.toSl fun b off n cap e => (V6.lt _ _ _ _ e).1⟩
  · have c3b : (((crcN (xs.take n) : Nat) : Int) != (sm : Int)) = true := by
      rw [bne_iff_ne]
      intro h
      exact c3 (by omega)
    rw [if_pos c3]
    repeat ((with_reducible refine WDM_cons ?_; simp only [dw1]; try simp only [dw2, zrA, zrM, zrR, zrO, zrE]); simp only [core, zrA, zrS, zrM, zrL, zrE, reduceCtorEq, zrD, ziE, ziL, ziN, cored, L5, l5, z1, z2, c2j, c0j, hcap, c3b, q1, Int.le_refl, Int.toNat_natCast])
    exact ⟨E5, _, rfl, .bytesNil⟩
end Go.Proofs.Ytcnbamdmngaliaa.Ex
end

section

set_option linter.unusedSimpArgs false
set_option linter.unusedVariables false
set_option maxRecDepth 10000
set_option maxHeartbeats 4000000
namespace Go.Proofs.Ytcnbamdmngaliaa.Ex
open Go
theorem unframeE_x {H : AH} {v : AV} {bs : List UInt8} {F : Nat → Prop} (hv : IsSl RByte F H v bs) (hl : bs.length ≤ 1000000000) :
    WC Try.prog (tabOf Try.prog NT0) S0 55 [v] H fun r h' => Ext H.n H h' ∧ UnfO H.n h' (unfr bs) r := by
  have hv : IsSl RByte (fun b => b < H.n) H v bs := hv.bytesF fun b off n cap e => by
    rcases hv.bytesRow with ⟨e', -⟩ | ⟨b', off', cap', row, e', -, h4, -, -⟩
    · rw [e'] at e; cases e
    · rw [e'] at e; cases e; exact getR_lt h4
  refine WC_fn Try.func55 rfl rfl ?_
  have v1 := hv.isSl
  have v2 := hv.lenD
  by_cases c8 : bs.length < 8
  · have c8i : ((bs.length : Int) < 8) = True := by simp only [eq_iff_iff, iff_true]; omega
    have hu : unfr bs = ([], 0, 11) := by unfold unfr; rw [if_pos c8]
    rw [hu]
    simp only [core, zrA, zrS, zrM, zrL, zrE, reduceCtorEq, zrD, ziE, ziL, ziN, Try.ntmps55, v1, v2, c8i]
    exact ⟨Ext.refl _ _, _, rfl, .bytesNil⟩
  have c8i : ((bs.length : Int) < 8) = False := by simp only [eq_iff_iff, iff_false]; omega
  have w1 := hv.one
  simp only [core, zrA, zrS, zrM, zrL, zrE, reduceCtorEq, zrD, ziE, ziL, ziN, Try.ntmps55, v1, v2, c8i, w1]
  obtain ⟨h1, hh1⟩ : ∃ h1, h1 = H.push (rdC v) := ⟨_, rfl⟩
  have E1 : Ext H.n H h1 := hh1 ▸ (Ext.refl _ _).push _ (Nat.le_refl _)
  have A1 : h1.at H.n = some (rdC v) := hh1 ▸ at_push_n _ _
  have hn1 : h1.n = H.n + 1 := hh1 ▸ n_push _ _
  unfold rdC at hh1
  rw [← hh1]
  clear hh1
  have hv1 := hv.ext E1 (Nat.le_refl _)
  refine (wordE_x A1 hv1 (Nat.lt_irrefl _) (by omega) hl).mono ?_
  rintro _ h2 ⟨rfl, m2⟩
  have E2 : Ext H.n H h2 := E1.trans (m2.ext (Nat.le_refl _))
  have hs2 : IsSl RByte (fun b => b < H.n) h2 (subSl 1 4 bs.length v) (bs.drop 4) := by
    have := (hv.sub (l := 4) (r := bs.length) (by omega) (Nat.le_refl _)).ext E2 (Nat.le_refl _)
    rw [List.take_length] at this
    exact this
  have hn2 : h2.n = H.n + 1 := m2.n.trans hn1
  have N1 : leN (bs.take 4) < 4294967296 := by
    have := leN_lt (bs.take 4)
    rw [List.length_take, Nat.min_eq_left (by omega)] at this
    exact this
  have hc1 : IntKind.i64.wrap ((leN (bs.take 4) : Nat) : Int) = ((leN (bs.take 4) : Nat) : Int) := wrap_in (by omega) (by omega)
  have hFc : ∀ k, H.n ≤ k → ¬ (fun b => b < H.n) k := fun k hk => Nat.not_lt.2 hk
  simp only [core, zrA, zrS, zrM, zrL, zrE, reduceCtorEq, zrD, ziE, ziL, ziN, hc1]
  refine (wordE_x m2.at_ hs2 (Nat.lt_irrefl _) (by rw [List.length_drop]; omega) (by rw [List.length_drop]; omega)).mono ?_
  rintro _ h3 ⟨rfl, m3⟩
  have E3 : Ext H.n H h3 := E2.trans (m3.ext (Nat.le_refl _))
  have hl8 : (bs.drop 8).length = bs.length - 8 := by rw [List.length_drop]
  have hs3 : IsSl RByte (fun b => b < H.n) h3 (subSl 1 4 (bs.drop 4).length (subSl 1 4 bs.length v)) (bs.drop 8) := by
    have s1 := hv.sub (l := 4) (r := bs.length) (by omega) (Nat.le_refl _)
    rw [List.take_length] at s1
    have := (s1.sub (l := 4) (r := (bs.drop 4).length) (by rw [List.length_drop]; omega) (Nat.le_refl _)).ext E3 (Nat.le_refl _)
    rw [List.take_length, List.drop_drop] at this
    exact this
  have A3 := m3.at_
  have hn3 : h3.n = H.n + 1 := m3.n.trans hn2
  obtain ⟨w, hw⟩ : ∃ w, w = subSl 1 4 (bs.drop 4).length (subSl 1 4 bs.length v) := ⟨_, rfl⟩
  rw [← hw] at hs3 A3
  clear hw m3
  obtain ⟨n, hn⟩ : ∃ n, n = leN (bs.take 4) := ⟨_, rfl⟩
  obtain ⟨sm, hsm⟩ : ∃ sm, sm = leN ((bs.drop 4).take 4) := ⟨_, rfl⟩
  obtain ⟨xs, hxs⟩ : ∃ xs, xs = bs.drop 8 := ⟨_, rfl⟩
  have N2 : sm < 4294967296 := by
    have := leN_lt ((bs.drop 4).take 4)
    rw [List.length_take, List.length_drop, Nat.min_eq_left (by omega), ← hsm] at this
    exact this
  have hu : unfr bs = if 524288 < n then ([], 0, 27) else if xs.length < n then ([], 0, 11) else if crcN (xs.take n) ≠ sm then ([], 0, 74) else (xs.take n, n + 8, 0) := by
    unfold unfr
    rw [if_neg c8, hn, hsm, hxs]
  rw [hu]
  rw [← hn] at N1 ⊢
  rw [← hsm]
  rw [← hxs] at hs3
  have hc2 : IntKind.u32.wrap (sm : Int) = (sm : Int) := wrap_u32 (by omega) (by omega)
  have z1 := hs3.isSl
  have z2 := hs3.lenD
  unfold rdC at A3
  have L3 := ld_at (T := tabOf Try.prog NT0) A3
  have l3 := at_lt A3
  have hcap : CapOk 1 w := by obtain ⟨L, -, -, hc, -⟩ := hs3.out; exact hc
  by_cases c1 : 524288 < n
  · have c1i : ((524288 : Int) < (n : Int)) = True := by simp only [eq_iff_iff, iff_true]; omega
    rw [if_pos c1]
    simp only [core, zrA, zrS, zrM, zrL, zrE, reduceCtorEq, zrD, ziE, ziL, ziN, hc2, c1i]
    exact ⟨E3, _, rfl, .bytesNil⟩
  have c1i : ((524288 : Int) < (n : Int)) = False := by simp only [eq_iff_iff, iff_false]; omega
  rw [show (if 524288 < n then (([] : List UInt8), 0, 27) else if xs.length < n then ([], 0, 11) else if crcN (xs.take n) ≠ sm then ([], 0, 74) else (xs.take n, n + 8, 0)) = if xs.length < n then ([], 0, 11) else if crcN (xs.take n) ≠ sm then ([], 0, 74) else (xs.take n, n + 8, 0) from if_neg c1]
  by_cases c2 : xs.length < n
  · have c2i : ((xs.length : Int) < (n : Int)) = True := by simp only [eq_iff_iff, iff_true]; omega
    rw [if_pos c2]
    simp only [core, zrA, zrS, zrM, zrL, zrE, reduceCtorEq, zrD, ziE, ziL, ziN, hc2, c1i, L3, l3, z1, z2, c2i]
    exact ⟨E3, _, rfl, .bytesNil⟩
  have c2i : ((xs.length : Int) < (n : Int)) = False := by simp only [eq_iff_iff, iff_false]; omega
  have c2j : ((n : Int) ≤ (xs.length : Int)) = True := by simp only [eq_iff_iff, iff_true]; omega
  have c0j : ((0 : Int) ≤ (n : Int)) = True := by simp only [eq_iff_iff, iff_true]; omega
  rw [show (if xs.length < n then (([] : List UInt8), 0, 11) else if crcN (xs.take n) ≠ sm then ([], 0, 74) else (xs.take n, n + 8, 0)) = if crcN (xs.take n) ≠ sm then ([], 0, 74) else (xs.take n, n + 8, 0) from if_neg c2]
  have hs4 : IsSl RByte (fun b => b < H.n) h3 (subSl 1 0 n w) (xs.take n) := by
    have := hs3.sub (l := 0) (r := n) (Nat.zero_le _) (by omega)
    rw [List.drop_zero] at this
    exact this
  have y1 := hs4.isSl
  have hw8 : IntKind.i64.wrap (8 + (n : Int)) = ((n + 8 : Nat) : Int) := (wrap_in (by omega) (by omega)).trans (by omega)
  simp only [core, zrA, zrS, zrM, zrL, zrE, reduceCtorEq, zrD, ziE, ziL, ziN, hc2, c1i, L3, l3, z1, z2, c2i, c2j, c0j, hcap, Int.le_refl, Int.toNat_natCast]
  obtain ⟨h4, hh4⟩ : ∃ h4, h4 = h3.push (.cells [] 5) := ⟨_, rfl⟩
  have E34 : Ext h3.n h3 h4 := hh4 ▸ (Ext.refl h3.n h3).push _ (Nat.le_refl _)
  have A4 : h4.at h3.n = some (.cells [] 5) := hh4 ▸ at_push_n _ _
  have hn4 : h4.n = h3.n + 1 := hh4 ▸ n_push _ _
  rw [← hh4]
  have hl5 : (xs.take n).length ≤ 1000000 := by rw [List.length_take]; omega
  refine WOp_app (fresh_bytes A4 (hs4.ext E34 (Nat.le_refl _)) (by omega)) ?_
  rintro s5 h5 ⟨E45, S5, -⟩
  have E5 : Ext H.n H h5 := (E3.trans (E34.mono (by omega))).trans (E45.mono (by omega))
  have A5 : h5.at H.n = some (.cells [w, .lit (.bool false)] 107) := E45.at (by omega) (E34.at (by omega) A3)
  have S5' : IsSl RByte (fun b => H.n ≤ b) h5 s5 (xs.take n) := S5.bytesF fun b off k cap e => by
    rcases S5.bytesRow with ⟨e', -⟩ | ⟨b', off', cap', row, e', hb, -⟩
    · rw [e'] at e; cases e
    · rw [e'] at e; cases e; omega
  simp only [core, zrA, zrS, zrM, zrL, zrE, reduceCtorEq, zrD, ziE, ziL, ziN]
  refine crcD_c S5.bytesOf hl5 ?_
  by_cases c3 : crcN (xs.take n) = sm
  · have c3b : (((crcN (xs.take n) : Nat) : Int) != (sm : Int)) = false := by rw [c3]; exact bne_self_eq_false _
    rw [if_neg (fun h => h c3)]
    simp only [core, zrA, zrS, zrM, zrL, zrE, reduceCtorEq, zrD, ziE, ziL, ziN, c3b, hw8]
    exact ⟨E5, _, rfl, S5'⟩
  · have c3b : (((crcN (xs.take n) : Nat) : Int) != (sm : Int)) = true := by
      rw [bne_iff_ne]
      intro h
      exact c3 (by omega)
    rw [if_pos c3]
    simp only [core, zrA, zrS, zrM, zrL, zrE, reduceCtorEq, zrD, ziE, ziL, ziN, c3b]
    exact ⟨E5, _, rfl, .bytesNil⟩
end Go.Proofs.Ytcnbamdmngaliaa.Ex
end

section

set_option linter.unusedSimpArgs false
set_option linter.unusedVariables false
set_option maxRecDepth 10000
set_option maxHeartbeats 4000000
namespace Go.Proofs.Ytcnbamdmngaliaa.Ex
open Go
def RRec : Rep (Int × List UInt8) := RPair RInt (RSl RByte)
theorem RRec_is {F : Nat → Prop} {h : AH} {c : List AV} {x : Int × List UInt8} : RRec.is F h c x ↔ ∃ vb, c = [.lit (.int .i64 x.1), vb] ∧ IsSl RByte F h vb x.2 ∧ I64 x.1 := by
  constructor
  · rintro ⟨c1, c2, rfl, ⟨rfl, h1⟩, h2⟩
    obtain ⟨v, rfl, h3⟩ := RSl_is.1 h2
    exact ⟨v, rfl, h3, h1⟩
  · rintro ⟨vb, rfl, h1, h2⟩
    exact ⟨_, _, rfl, ⟨rfl, h2⟩, RSl_is.2 ⟨vb, rfl, h1⟩⟩
theorem RRec_z : RRec.z = 2 := rfl
theorem stp_count {at0 a : Int} {bs r : List UInt8} {l : RecL} (h : Stp at0 bs l a r) : l.length * 8 + r.length ≤ bs.length := by
  induction h with
  | nil => simp
  | snoc h hu ih =>
    obtain ⟨-, h2, -, h4, -⟩ := unfr_out hu
    rw [List.length_drop, List.length_append, List.length_singleton]
    omega
theorem stp_item {at0 a : Int} {bs r : List UInt8} {l : RecL} (h : Stp at0 bs l a r) : ∀ x ∈ l, at0 ≤ x.1 ∧ x.1 + 8 + x.2.length ≤ a ∧ x.2.length ≤ bs.length := by
  induction h with
  | nil => simp
  | snoc h hu ih =>
    rename_i l a r c n
    obtain ⟨-, h2, -, h4, h5, -⟩ := unfr_out hu
    have hl := h.len
    have hc : c.length ≤ n - 8 := by rw [h5, List.length_take]; omega
    intro x hx
    rw [List.mem_append, List.mem_singleton] at hx
    rcases hx with hx | rfl
    · have := ih x hx
      omega
    · simp only
      omega
def kjC (e : Nat) (torn : Int) : AB := .cells [.ptr e 0, .lit (.int .i64 torn)] 60
abbrev OwnR (n0 : Nat) (h : AH) (v : AV) (e : TypeId) (l : RecL) : Prop := OwnL RRec (fun b => n0 ≤ b) n0 h v e l
theorem recordsE_x {H : AH} {k d : Nat} {size base synced limit torn : Int} {v : AV} {bs : List UInt8} {F : Nat → Prop} (hk : H.at k = some (kjC d torn)) (hd : H.at d = some (ekC size base v synced limit)) (hb : 0 ≤ base ∧ base ≤ 4611686018427387904)
    (hv : IsSl RByte F H v bs) (hl : bs.length ≤ 67108864) :
    WC Try.prog (tabOf Try.prog NT0) S0 36 [.ptr k 0] H fun r h' => Ext H.n H h' ∧ ∃ l a rest vl, Full base bs l a rest ∧ r = .tup [vl, .lit (.int .i64 a)] ∧ OwnR H.n h' vl 75 l := by
  refine WC_fn Try.func36 rfl rfl ?_
  have hk' := hk
  have hd' := hd
  unfold kjC at hk
  unfold ekC at hd
  have K1 := ld_at (T := tabOf Try.prog NT0) hk
  have k1 := at_lt hk
  have L := ld_at (T := tabOf Try.prog NT0) hd
  have l := at_lt hd
  have v1 := hv.isSl
  have v2 := hv.lenD
  have hw1 : IntKind.i64.wrap (base + (bs.length : Int) - base) = bs.length := (wrap_in (by omega) (by omega)).trans (by omega)
  simp only [core, zrA, zrS, zrM, zrL, zrE, reduceCtorEq, zrD, ziE, ziL, ziN, Try.ntmps36, K1, k1, L, l]
  rw [WB_regionD [0, 1, 2, 3, 4, 5, 6, 7, 8, 10, 9, 11, 12, 13, 14, 15, 16, 17] 17087782212886363615231666077871662056054117340225924585331863844759038901643627831103114193403904 (by kernel_rfl)]
  repeat ((with_reducible refine WDM_cons ?_; simp only [dw1]; try simp only [dw2, zrA, zrM, zrR, zrO, zrE]); simp only [core, zrA, zrS, zrM, zrL, zrE, reduceCtorEq, zrD, ziE, ziL, ziN, cored, K1, k1])
  refine (endE_x hd' v1 v2 hb (by omega)).mono ?_
  rintro _ h1 ⟨e1, rfl⟩
  replace e1 := e1.symm
  subst e1
  repeat ((with_reducible refine WDM_cons ?_; simp only [dw1]; try simp only [dw2, zrA, zrM, zrR, zrO, zrE]); simp only [core, zrA, zrS, zrM, zrL, zrE, reduceCtorEq, zrD, ziE, ziL, ziN, cored, K1, k1, hw1])
  refine (readE_x hd' hb hv hl (by omega) (by omega)).mono ?_
  rintro _ h1 ⟨E1, w, rfl, S1⟩
  rw [Int.sub_self, show (0 : Int).toNat = 0 from rfl, List.drop_zero, Int.toNat_natCast, List.take_length] at S1
  have hk1 := E1.at k1 hk
  have K2 := ld_at (T := tabOf Try.prog NT0) hk1
  have k2 := at_lt hk1
  repeat ((with_reducible refine WDM_cons ?_; simp only [dw1]; try simp only [dw2, zrA, zrM, zrR, zrO, zrE]); simp only [core, zrA, zrS, zrM, zrL, zrE, reduceCtorEq, zrD, ziE, ziL, ziN, cored, K2, k2, same_one])
  refine WB_ind (fun (q : RecL × Int × List UInt8) t h => (∃ s u, Ext H.n H h ∧ Stp base bs q.1 q.2.1 q.2.2 ∧ OwnR H.n h s 75 q.1 ∧ IsSl RByte (fun b => H.n ≤ b ∧ Apart s b) h u q.2.2 ∧ t.get 7 = s ∧ t.get 5 = u) ∧ t.n = 56 ∧ t.get 0 = .ptr k 0 ∧ t.get 4 = .lit (.int .i64 q.2.1)) (fun q => q.2.2.length) ?_ ([], base, bs) _ _ ?_
  · rintro ⟨l, a, rest⟩ t h ⟨⟨s, u, E, hst, ho, hu, gA, gB⟩, hn, g0, g4⟩ ih
    dsimp only at *
    have hcnt := stp_count hst
    have hle := hst.len
    have u1 := hu.isSl
    have u2 := hu.lenD
    have hcap : CapOk 1 u := by obtain ⟨L, -, -, hc, -⟩ := hu.out; exact hc
    have s1 := ho.isSl
    simp only [core, zrA, zrS, zrM, zrL, zrE, reduceCtorEq, zrD, ziE, ziL, ziN, hn, g0, g4, gA, gB]
    refine (unframeE_x hu (by omega)).mono ?_
    rintro _ h2 ⟨E2, c, rfl, hc⟩
    have hEn := E.1
    have E' := E.trans (E2.mono hEn)
    obtain ⟨⟨cs, n, e⟩, huf⟩ : ∃ y, y = unfr rest := ⟨_, rfl⟩
    rw [← huf] at hc ⊢
    dsimp only at hc ⊢
    by_cases ce : e = 0
    · subst ce
      obtain ⟨y1, y2, y3, y4, y5, y6⟩ := unfr_out huf.symm
      have ce : (((0 : Nat) : Int) != 0) = false := by decide
      have cc1 := hc.cells
      have cc2 := hc.one
      have hwn : IntKind.i64.wrap (a + (n : Int)) = a + n := wrap_in (by omega) (by omega)
      have j1 : ((0 : Int) ≤ (n : Int)) = True := by simp only [eq_iff_iff, iff_true]; omega
      have j2 : ((n : Int) ≤ (rest.length : Int)) = True := by simp only [eq_iff_iff, iff_true]; omega
      simp only [core, zrA, zrS, zrM, zrL, zrE, reduceCtorEq, zrD, ziE, ziL, ziN, hn, g0, g4, gA, gB, ce, cc1, cc2]
      obtain ⟨h3, hh3⟩ : ∃ h3, h3 = h2.push (.cells [.lit (.int .i64 a), c] 75) := ⟨_, rfl⟩
      have E3 : Ext h2.n h2 h3 := hh3 ▸ (Ext.refl _ _).push _ (Nat.le_refl _)
      have A3 : h3.at h2.n = some (.cells [.lit (.int .i64 a), c] 75) := hh3 ▸ at_push_n _ _
      rw [← hh3]
      have e2n := E2.1
      have e3n := E3.1
      have ho3 := (ho.ext E2 (Nat.le_refl _)).ext E3 (Nat.le_refl _)
      refine WOp_app (ho3.snoc (y := (a, cs)) (by kernel_rfl) (by kernel_rfl) (by kernel_rfl) (zv := .agg [.lit (.int .i64 0), .lit (.slice none 0 0)]) (by kernel_rfl) (by' := 32) (by kernel_rfl) rfl (by decide) (by decide) A3 (RRec_is.2 ⟨c, rfl, (hc.ext E3 (Nat.le_refl _)).lift fun b hb hlt => ⟨rfl, Nat.le_trans hEn hb, ho.apart hb⟩, by unfold I64; dsimp only; omega⟩) (by omega) (by omega) (by omega)) ?_
      rintro s4 h4 ⟨ho4, e4, f4⟩
      have v4 := ho4.isSl
      simp only [core, zrA, zrS, zrM, zrL, zrE, reduceCtorEq, zrD, ziE, ziL, ziN, hn, g0, g4, gA, gB, ce, cc1, cc2, u1, u2, hwn, j1, j2, hcap, Int.le_refl, Int.toNat_natCast]
      have E34 : Ext H.n h h4 := ((E2.trans (E3.mono (by omega))).mono hEn).trans e4
      have hsub : IsSl RByte (fun b => H.n ≤ b ∧ Apart s b) h (subSl 1 n rest.length u) (rest.drop n) := by
        have := hu.sub (l := n) (r := rest.length) y4 (Nat.le_refl _)
        rw [List.take_length] at this
        exact this
      refine ih (l ++ [(a, cs)], a + n, rest.drop n) _ _ ⟨⟨s4, subSl 1 n rest.length u, E.trans E34, hst.snoc huf.symm, ho4, hsub.lift fun b hb hlt => ?_, ?_, ?_⟩, ?_⟩ ?_
      · obtain ⟨q1, q2⟩ := f4 b (by omega) hb.2
        exact ⟨q1.trans ((E3.2 b (by omega)).trans (E2.2 b hlt)), hb.1, q2⟩
      · simp only [core, zrA, zrS, zrM, zrL, zrE, reduceCtorEq, zrD, ziE, ziL, ziN, hn, g0, g4]
      · simp only [core, zrA, zrS, zrM, zrL, zrE, reduceCtorEq, zrD, ziE, ziL, ziN, hn, g0, g4]
      · simp only [core, zrA, zrS, zrM, zrL, zrE, reduceCtorEq, zrD, ziE, ziL, ziN, hn, g0, g4]
      · dsimp only
        rw [List.length_drop]
        omega
    · have ce2 : ((e : Int) != 0) = true := by rw [bne_iff_ne]; omega
      simp only [core, zrA, zrS, zrM, zrL, zrE, reduceCtorEq, zrD, ziE, ziL, ziN, hn, g0, g4, gA, gB, ce2]
      exact ⟨E', l, a, rest, s, ⟨hst, by rw [← huf]; exact ce⟩, rfl, ho.ext E2 (Nat.le_refl _)⟩
  · simp only [core, zrA, zrS, zrM, zrL, zrE, reduceCtorEq, zrD, ziE, ziL, ziN]
    exact ⟨_, _, E1, .nil, .nil, S1.lift fun b hb hlt => ⟨rfl, hb, fun off n cap e => by cases e⟩, rfl, rfl⟩
end Go.Proofs.Ytcnbamdmngaliaa.Ex
end

section

set_option linter.unusedSimpArgs false
set_option linter.unusedVariables false
set_option maxRecDepth 10000
set_option maxHeartbeats 4000000
namespace Go.Proofs.Ytcnbamdmngaliaa.Ex
open Go
/-- A journal: its disk, its records, how much was torn. -/
def jnC (d : Nat) (vl : AV) (torn : Int) : AB := .cells [.ptr d 0, vl, .lit (.int .i64 torn)] 63
theorem is_x {H : AH} {j d : Nat} {torn : Int} {vl : AV} (hj : H.at j = some (jnC d vl torn)) :
    WC Try.prog (tabOf Try.prog NT0) S0 29 [.ptr j 0] H fun r h' => h' = H ∧ r = .lit (.bool true) := by
  refine WC_fn Try.func29 rfl rfl ?_
  unfold jnC at hj
  have L := ld_at (T := tabOf Try.prog NT0) hj
  have l := at_lt hj
  simp only [core, zrA, zrS, zrM, zrL, zrE, reduceCtorEq, zrD, ziE, ziL, ziN, Try.ntmps29, L, l, aundef]
theorem first_x {H : AH} {j d : Nat} {torn : Int} {vl : AV} (hj : H.at j = some (jnC d vl torn)) {size base synced limit : Int} {v : AV} (hd : H.at d = some (dkC size base v synced limit)) (h0 : 0 < size) :
    WC Try.prog (tabOf Try.prog NT0) S0 47 [.ptr j 0] H fun r h' => h' = H ∧ r = .lit (.int .i64 base) := by
  refine WC_fn Try.func47 rfl rfl ?_
  have hj' := hj
  unfold jnC at hj
  have L := ld_at (T := tabOf Try.prog NT0) hj
  have l := at_lt hj
  simp only [core, zrA, zrS, zrM, zrL, zrE, reduceCtorEq, zrD, ziE, ziL, ziN, Try.ntmps47]
  refine (is_x hj').mono ?_
  rintro _ h1 ⟨e1, rfl⟩
  replace e1 := e1.symm
  subst e1
  simp only [core, zrA, zrS, zrM, zrL, zrE, reduceCtorEq, zrD, ziE, ziL, ziN, L, l]
  refine (base_x hd h0).mono ?_
  rintro _ h1 ⟨e1, rfl⟩
  replace e1 := e1.symm
  subst e1
  simp only [core, zrA, zrS, zrM, zrL, zrE, reduceCtorEq, zrD, ziE, ziL, ziN]
theorem endJ_x {H : AH} {j d : Nat} {torn : Int} {vl : AV} (hj : H.at j = some (jnC d vl torn)) {size base synced limit : Int} {v : AV} (hd : H.at d = some (dkC size base v synced limit)) (h0 : 0 < size) {n : Nat} (hv : isSl v = true) (hn : lenD v = n) (hb : 0 ≤ base ∧ base ≤ 4611686018427387904) (hl : n ≤ 1000000000) :
    WC Try.prog (tabOf Try.prog NT0) S0 43 [.ptr j 0] H fun r h' => h' = H ∧ r = .lit (.int .i64 (base + n)) := by
  refine WC_fn Try.func43 rfl rfl ?_
  have hj' := hj
  unfold jnC at hj
  have L := ld_at (T := tabOf Try.prog NT0) hj
  have l := at_lt hj
  simp only [core, zrA, zrS, zrM, zrL, zrE, reduceCtorEq, zrD, ziE, ziL, ziN, Try.ntmps43]
  refine (is_x hj').mono ?_
  rintro _ h1 ⟨e1, rfl⟩
  replace e1 := e1.symm
  subst e1
  simp only [core, zrA, zrS, zrM, zrL, zrE, reduceCtorEq, zrD, ziE, ziL, ziN, L, l]
  refine (end_x hd h0 hv hn hb hl).mono ?_
  rintro _ h1 ⟨e1, rfl⟩
  replace e1 := e1.symm
  subst e1
  simp only [core, zrA, zrS, zrM, zrL, zrE, reduceCtorEq, zrD, ziE, ziL, ziN]
theorem syncedJ_x {H : AH} {j d : Nat} {torn : Int} {vl : AV} (hj : H.at j = some (jnC d vl torn)) {size base synced limit : Int} {v : AV} (hd : H.at d = some (dkC size base v synced limit)) (h0 : 0 < size) :
    WC Try.prog (tabOf Try.prog NT0) S0 44 [.ptr j 0] H fun r h' => h' = H ∧ r = .lit (.int .i64 synced) := by
  refine WC_fn Try.func44 rfl rfl ?_
  have hj' := hj
  unfold jnC at hj
  have L := ld_at (T := tabOf Try.prog NT0) hj
  have l := at_lt hj
  simp only [core, zrA, zrS, zrM, zrL, zrE, reduceCtorEq, zrD, ziE, ziL, ziN, Try.ntmps44]
  refine (is_x hj').mono ?_
  rintro _ h1 ⟨e1, rfl⟩
  replace e1 := e1.symm
  subst e1
  simp only [core, zrA, zrS, zrM, zrL, zrE, reduceCtorEq, zrD, ziE, ziL, ziN, L, l]
  refine (synced_x hd h0).mono ?_
  rintro _ h1 ⟨e1, rfl⟩
  replace e1 := e1.symm
  subst e1
  simp only [core, zrA, zrS, zrM, zrL, zrE, reduceCtorEq, zrD, ziE, ziL, ziN]
theorem count_x {H : AH} {j d : Nat} {torn : Int} {vl : AV} (hj : H.at j = some (jnC d vl torn)) {n : Nat} (hv : isSl vl = true) (hn : lenD vl = n) :
    WC Try.prog (tabOf Try.prog NT0) S0 22 [.ptr j 0] H fun r h' => h' = H ∧ r = .lit (.int .i64 (n : Int)) := by
  refine WC_fn Try.func22 rfl rfl ?_
  have hj' := hj
  unfold jnC at hj
  have L := ld_at (T := tabOf Try.prog NT0) hj
  have l := at_lt hj
  simp only [core, zrA, zrS, zrM, zrL, zrE, reduceCtorEq, zrD, ziE, ziL, ziN, Try.ntmps22]
  refine (is_x hj').mono ?_
  rintro _ h1 ⟨e1, rfl⟩
  replace e1 := e1.symm
  subst e1
  simp only [core, zrA, zrS, zrM, zrL, zrE, reduceCtorEq, zrD, ziE, ziL, ziN, L, l, hv, hn]
theorem torn_x {H : AH} {j d : Nat} {torn : Int} {vl : AV} (hj : H.at j = some (jnC d vl torn)) :
    WC Try.prog (tabOf Try.prog NT0) S0 14 [.ptr j 0] H fun r h' => h' = H ∧ r = .lit (.int .i64 torn) := by
  refine WC_fn Try.func14 rfl rfl ?_
  have hj' := hj
  unfold jnC at hj
  have L := ld_at (T := tabOf Try.prog NT0) hj
  have l := at_lt hj
  simp only [core, zrA, zrS, zrM, zrL, zrE, reduceCtorEq, zrD, ziE, ziL, ziN, Try.ntmps14]
  refine (is_x hj').mono ?_
  rintro _ h1 ⟨e1, rfl⟩
  replace e1 := e1.symm
  subst e1
  simp only [core, zrA, zrS, zrM, zrL, zrE, reduceCtorEq, zrD, ziE, ziL, ziN, L, l]
end Go.Proofs.Ytcnbamdmngaliaa.Ex
end

section

set_option linter.unusedSimpArgs false
set_option linter.unusedVariables false
set_option maxRecDepth 10000
set_option maxHeartbeats 4000000
namespace Go.Proofs.Ytcnbamdmngaliaa.Ex
open Go
/-- The record that starts at a place. -/
def rdR (at_ : Int) : RecL → List UInt8 × Int
  | [] => ([], 2)
  | x :: l => if x.1 = at_ then (x.2, 0) else rdR at_ l
theorem rdR_drop {at_ : Int} {l : RecL} {i : Nat} {x : Int × List UInt8} (hx : l[i]? = some x) : rdR at_ (l.drop i) = if x.1 = at_ then (x.2, 0) else rdR at_ (l.drop (i + 1)) := by
  obtain ⟨hlt, e⟩ := List.getElem?_eq_some_iff.1 hx
  rw [List.drop_eq_getElem_cons hlt, e]
  rfl
theorem readJ_x {H : AH} {j d : Nat} {torn at_ : Int} {vl : AV} {l : RecL} {F : Nat → Prop} (hj : H.at j = some (jnC d vl torn)) (hv : IsSl RRec F H vl l) (hl : l.length ≤ 100000000) (hb : ∀ x ∈ l, x.2.length ≤ 100000000) :
    WC Try.prog (tabOf Try.prog NT0) S0 33 [.ptr j 0, .lit (.int .i64 at_)] H fun r h' => Ext H.n H h' ∧ ∃ v', r = .tup [v', .lit (.int .i64 (rdR at_ l).2)] ∧ OwnB H.n h' v' (rdR at_ l).1 := by
  refine WC_fn Try.func33 rfl rfl ?_
  have hj' := hj
  unfold jnC at hj
  have L := ld_at (T := tabOf Try.prog NT0) hj
  have lj := at_lt hj
  have s1 := hv.isSl
  have s2 := hv.lenD
  simp only [core, zrA, zrS, zrM, zrL, zrE, reduceCtorEq, zrD, ziE, ziL, ziN, Try.ntmps33]
  refine (is_x hj').mono ?_
  rintro _ h1 ⟨e1, rfl⟩
  replace e1 := e1.symm
  subst e1
  simp only [core, zrA, zrS, zrM, zrL, zrE, reduceCtorEq, zrD, ziE, ziL, ziN, L, lj, s1, s2]
  refine WB_for l.length (fun i t h => Ext H.n H h ∧ rdR at_ l = rdR at_ (l.drop i) ∧ t.n = 28 ∧ t.get 1 = .lit (.int .i64 at_) ∧ t.get 14 = vl ∧ t.get 15 = .lit (.int .i64 l.length) ∧ t.get 16 = .lit (.int .i64 i)) ?_ ?_ _ _ ?_
  · rintro i t h hlt hc ⟨he, hf, hn, g1, g14, g15, g16⟩ ih
    obtain ⟨x, hx⟩ : ∃ x, l[i]? = some x := ⟨_, List.getElem?_eq_getElem hlt⟩
    obtain ⟨c, hc1, hld, hld0⟩ := hv.atE (T := tabOf Try.prog NT0) he RRec_z hx
    obtain ⟨vb, rfl, hvb, hx0⟩ := RRec_is.1 hc1
    have hws := wrap_succ hlt (by omega)
    rw [rdR_drop hx] at hf
    have b1 := hvb.isSl
    have b2 := hvb.one
    have b3 := hvb.cells
    by_cases ce : x.1 = at_
    · rw [if_pos ce] at hf
      rw [hf]
      have ceb : (x.1 == at_) = true := by rw [beq_iff_eq]; exact ce
      simp only [core, zrA, zrS, zrM, zrL, zrE, reduceCtorEq, zrD, ziE, ziL, ziN, s1, s2, hn, g1, g14, g15, g16, hlt, hc, hld, hld0, hws, b1, b2, b3, ceb]
      have he2 : Ext H.n H (h.push (.cells [.lit (.int .i64 x.1), vb] 84)) := he.push _ he.1
      refine WOp_app (OwnB.app (n0 := H.n) .nil (hvb.ext he2 (Nat.le_refl _)) (by have := hb x (List.mem_of_getElem? hx); simp only [List.length_nil]; omega) he2.1) ?_
      rintro s' h' ⟨o, E⟩
      simp only [core, zrA, zrS, zrM, zrL, zrE, reduceCtorEq, zrD, ziE, ziL, ziN, hn, g1, g14, g15, g16]
      exact ⟨he2.trans E, _, rfl, o⟩
    · rw [if_neg ce] at hf
      have ceb : (x.1 == at_) = false := by rw [beq_eq_false_iff_ne]; exact ce
      simp only [core, zrA, zrS, zrM, zrL, zrE, reduceCtorEq, zrD, ziE, ziL, ziN, s1, s2, hn, g1, g14, g15, g16, hlt, hc, hld, hld0, hws, b1, b2, b3, ceb]
      refine ih _ _ ⟨he.push _ he.1, hf, ?_⟩
      simp only [core, zrA, zrS, zrM, zrL, zrE, reduceCtorEq, zrD, ziE, ziL, ziN, hn, g1, g14, g15, g16]
  · rintro t h hc ⟨he, hf, hn, g1, g14, g15, g16⟩
    rw [List.drop_length] at hf
    rw [hf]
    simp only [core, zrA, zrS, zrM, zrL, zrE, reduceCtorEq, zrD, ziE, ziL, ziN, s1, s2, hn, g1, g14, g15, g16, hc]
    exact ⟨he, _, rfl, .nil⟩
  · refine ⟨Ext.refl _ _, rfl, ?_⟩
    simp only [core, zrA, zrS, zrM, zrL, zrE, reduceCtorEq, zrD, ziE, ziL, ziN]
    try ((repeat' apply And.intro) <;> first | rfl | trivial)
theorem OwnR.sl {n0 : Nat} {h : AH} {v : AV} {e : TypeId} {l : RecL} (ho : OwnR n0 h v e l) : IsSl RRec (fun b => n0 ≤ b) h v l := ho.toSl (fun b h => h) (fun b h => h)
end Go.Proofs.Ytcnbamdmngaliaa.Ex
end

section

set_option linter.unusedSimpArgs false
set_option linter.unusedVariables false
set_option maxRecDepth 10000
set_option maxHeartbeats 4000000
namespace Go.Proofs.Ytcnbamdmngaliaa.Ex
open Go
/-- What the numbers of a disk keep. -/
structure DOk (size base : Int) (bs : List UInt8) (synced limit : Int) : Prop where
  s : 0 < size ∧ size ≤ 67108864
  b : 0 ≤ base ∧ base ≤ 4611686018427387904
  l : (bs.length : Int) ≤ size
  y : base ≤ synced ∧ synced ≤ base + bs.length
  m : limit < 0 ∨ synced ≤ limit
structure PS (X : Nat → Prop) (h : AH) (j d : Nat) (size base synced limit torn : Int) (bs : List UInt8) (l : RecL) : Prop where
  e : ∃ v vl, h.at d = some (dkC size base v synced limit) ∧ h.at j = some (jnC d vl torn) ∧ VwB 0 h v bs ∧ SlF X v ∧ SlF X vl ∧ OwnL RRec (fun b => X b ∧ b ≠ d ∧ b ≠ j ∧ Apart v b) 0 h vl 84 l
  d : X d
  j : X j
  lt : ∀ b, X b → b < h.n
/-- What a step changes: the blocks of X; X' are the old ones and new ones. -/
structure Nx (X X' : Nat → Prop) (H h' : AH) : Prop where
  n : H.n ≤ h'.n
  k : ∀ b, b < H.n → ¬ X b → h'.at b = H.at b
  x : ∀ b, X' b → X b ∨ H.n ≤ b
theorem Nx.refl {X : Nat → Prop} {H : AH} : Nx X X H H := ⟨Nat.le_refl _, fun _ _ _ => rfl, fun b h => .inl h⟩
theorem Nx.ext {X : Nat → Prop} {H h : AH} (e : Ext H.n H h) : Nx X X H h := ⟨e.1, fun b hb _ => e.2 b hb, fun b h => .inl h⟩
theorem Nx.trans {X Y Z : Nat → Prop} {H h1 h2 : AH} (a : Nx X Y H h1) (b : Nx Y Z h1 h2) : Nx X Z H h2 := by
  refine ⟨Nat.le_trans a.n b.n, fun k hk hX => ?_, fun k hk => ?_⟩
  · have hY : ¬ Y k := fun hY => (a.x k hY).elim hX (fun h => by omega)
    exact (b.k k (Nat.lt_of_lt_of_le hk a.n) hY).trans (a.k k hk hX)
  · rcases b.x k hk with h | h
    · exact a.x k h
    · exact .inr (Nat.le_trans a.n h)
theorem own_at {α : Type} {R : Rep α} {G : Nat → Prop} {n0 : Nat} {h : AH} {v : AV} {e : TypeId} {xs : List α} (ho : OwnL R G n0 h v e xs) {b off n : Nat} {cap : Cap} (hv : v = .sl b off n cap) : ∃ row, h.at b = some (.cells row e) := by
  obtain ⟨L, h1, h2⟩ := ho
  rcases h1.2 with ⟨hh, _⟩ | ⟨p, hh, hp, hat⟩
  · rw [hh] at hv; cases hv
  · rw [hh] at hv; cases hv; exact ⟨_, hat⟩
theorem ownl_keep {α : Type} {R : Rep α} {G G' : Nat → Prop} {n0 : Nat} {h h' : AH} {v : AV} {e : TypeId} {xs : List α} (ho : OwnL R G n0 h v e xs) (hv : ∀ b off n cap, v = .sl b off n cap → h'.at b = h.at b) (hG : ∀ k, G k → k < h.n → h'.at k = h.at k ∧ G' k) : OwnL R G' n0 h' v e xs := by
  obtain ⟨L, h1, h2⟩ := ho
  refine ⟨L, ⟨h1.1, ?_⟩, h2.lift fun b hb hlt => ⟨(hG b hb.1 hlt).1, (hG b hb.1 hlt).2, hb.2⟩⟩
  rcases h1.2 with hh | ⟨p, rfl, hp, hat⟩
  · exact .inl hh
  · exact .inr ⟨p, rfl, hp, (hv _ _ _ _ rfl).trans hat⟩
theorem PS.lift {X : Nat → Prop} {h h' : AH} {j d : Nat} {size base synced limit torn : Int} {bs : List UInt8} {l : RecL} (hp : PS X h j d size base synced limit torn bs l) (hn : h.n ≤ h'.n) (hk : ∀ b, X b → h'.at b = h.at b) : PS X h' j d size base synced limit torn bs l := by
  obtain ⟨v, vl, e1, e2, e3, e4, e5, e6⟩ := hp.e
  exact ⟨⟨v, vl, (hk _ hp.d).trans e1, (hk _ hp.j).trans e2, e3.lift fun b off n cap e => hk b (e4 b off n cap e), e4, e5, ownl_keep e6 (fun b off n cap e => hk b (e5 b off n cap e)) fun k hG _ => ⟨hk k hG.1, hG⟩⟩, hp.d, hp.j, fun b hb => Nat.lt_of_lt_of_le (hp.lt b hb) hn⟩
theorem PS.ext {X : Nat → Prop} {h h' : AH} {j d : Nat} {size base synced limit torn : Int} {bs : List UInt8} {l : RecL} (hp : PS X h j d size base synced limit torn bs l) (he : Ext h.n h h') : PS X h' j d size base synced limit torn bs l := hp.lift he.1 fun b hb => he.2 b (hp.lt b hb)
end Go.Proofs.Ytcnbamdmngaliaa.Ex
end

section

set_option linter.unusedSimpArgs false
set_option linter.unusedVariables false
set_option maxRecDepth 10000
set_option maxHeartbeats 4000000
namespace Go.Proofs.Ytcnbamdmngaliaa.Ex
open Go
structure DS (Y : Nat → Prop) (h : AH) (k e : Nat) (size base synced limit torn : Int) (bs : List UInt8) : Prop where
  es : ∃ v, h.at e = some (ekC size base v synced limit) ∧ IsSl RByte (fun b => Y b ∧ b ≠ e ∧ b ≠ k) h v bs
  ks : h.at k = some (kjC e torn)
  ey : Y e
  ky : Y k
  lt : ∀ b, Y b → b < h.n
theorem DS.ne {Y : Nat → Prop} {h : AH} {k e : Nat} {size base synced limit torn : Int} {bs : List UInt8} (hp : DS Y h k e size base synced limit torn bs) : k ≠ e := fun eq => by
  obtain ⟨v, hv, -⟩ := hp.es
  have := hp.ks
  rw [eq, hv] at this
  unfold ekC kjC at this
  cases this
theorem DS.lift {Y : Nat → Prop} {h h' : AH} {k e : Nat} {size base synced limit torn : Int} {bs : List UInt8} (hp : DS Y h k e size base synced limit torn bs) (hn : h.n ≤ h'.n) (hk : ∀ b, Y b → h'.at b = h.at b) : DS Y h' k e size base synced limit torn bs := by
  obtain ⟨v, e1, e2⟩ := hp.es
  exact ⟨⟨v, (hk _ hp.ey).trans e1, e2.lift fun b hb _ => ⟨hk b hb.1, hb⟩⟩, (hk _ hp.ky).trans hp.ks, hp.ey, hp.ky, fun b hb => Nat.lt_of_lt_of_le (hp.lt b hb) hn⟩
theorem DS.ext {Y : Nat → Prop} {h h' : AH} {k e : Nat} {size base synced limit torn : Int} {bs : List UInt8} (hp : DS Y h k e size base synced limit torn bs) (he : Ext h.n h h') : DS Y h' k e size base synced limit torn bs := hp.lift he.1 fun b hb => he.2 b (hp.lt b hb)
/-- The disk alone is another one. -/
theorem DS.step {Y : Nat → Prop} {h h' : AH} {k e : Nat} {size base synced limit torn base' synced' limit' : Int} {bs bs' : List UInt8} {v' : AV} (hp : DS Y h k e size base synced limit torn bs) (hc : Cg [e] h h') (he : h'.at e = some (ekC size base' v' synced' limit')) (hv : IsSl RByte (fun b => h.n ≤ b) h' v' bs') :
    ∃ Y', DS Y' h' k e size base' synced' limit' torn bs' ∧ Nx Y Y' h h' := by
  have hke := hp.ne
  have hn := hc.n
  have lk := at_lt hp.ks
  have le := hp.lt e hp.ey
  have hlt : ∀ b, slB v' = b → b < h'.n ∨ v' = .lit (.slice none 0 0) := fun b hb => by
    rcases hv.bytesRow with ⟨e1, -⟩ | ⟨b', off, cap, row, e1, -, h4, -⟩
    · exact .inr e1
    · left; rw [← hb, e1]; exact getR_lt h4
  refine ⟨fun b => (Y b ∨ h.n ≤ b) ∧ b < h'.n, ⟨⟨v', he, hv.bytesF fun b off n cap e1 => ?_⟩, ?_, ⟨.inl hp.ey, by omega⟩, ⟨.inl hp.ky, by omega⟩, fun b hb => hb.2⟩, hc.n, fun b hb hY => hc.k b hb (fun hm => hY (by rw [List.mem_singleton] at hm; rw [hm]; exact hp.ey)), fun b hb => hb.1⟩
  · have : h.n ≤ b := by
      rcases hv.bytesRow with ⟨e2, -⟩ | ⟨b', off', cap', row, e2, hb, h4, -⟩
      · rw [e2] at e1; cases e1
      · rw [e2] at e1; cases e1; exact hb
    have hb2 : b < h'.n := by
      rcases hlt b (by rw [e1]; rfl) with h | h
      · exact h
      · rw [h] at e1; cases e1
    exact ⟨⟨.inr this, hb2⟩, by omega, by omega⟩
  · rw [hc.k k lk (by simp [hke])]
    exact hp.ks
end Go.Proofs.Ytcnbamdmngaliaa.Ex
end

section

set_option linter.unusedSimpArgs false
set_option linter.unusedVariables false
set_option maxRecDepth 10000
set_option maxHeartbeats 4000000
namespace Go.Proofs.Ytcnbamdmngaliaa.Ex
open Go
theorem any_cut {P : Program} {T : TT} {S : Sums} {E : FE} {X : List AI → KK → Prop} {k : List AI} {K : KK} (Inv : TM → AH → Prop) (ha : ∀ k' K', (∀ t' h', Inv t' h' → WB P T S E t' k' h' K') → X k' K') (hk : ∀ t' h', Inv t' h' → WB P T S E t' k h' K) : X k K := ha k K hk
/-- Which record starts at a place. -/
def idxR (at_ : Int) : RecL → Nat
  | [] => 0
  | x :: l => if x.1 = at_ then 0 else idxR at_ l + 1
/-- The disk is another one; the records are as they were. -/
theorem PS.step {X : Nat → Prop} {h h' : AH} {j d : Nat} {size base synced limit torn base' synced' limit' : Int} {bs bs' : List UInt8} {l : RecL} {v vl v' : AV} (hp : PS X h j d size base synced limit torn bs l)
    (hd : h.at d = some (dkC size base v synced limit)) (hj : h.at j = some (jnC d vl torn)) (ho : VwB 0 h v bs) (xv : SlF X v) (xl : SlF X vl) (hL : OwnL RRec (fun b => X b ∧ b ≠ d ∧ b ≠ j ∧ Apart v b) 0 h vl 84 l)
    (hc : Cg [d] h h') (he : h'.at d = some (dkC size base' v' synced' limit')) (hv : VwB 0 h' v' bs') (ha : ∀ b, b < h.n → Apart v b → Apart v' b) :
    ∃ X', PS X' h' j d size base' synced' limit' torn bs' l ∧ Nx X X' h h' := by
  have djne : j ≠ d := fun e => by
    subst e
    rw [hj] at hd
    unfold dkC jnC at hd
    cases hd
  have hn := hc.n
  refine ⟨fun b => (X b ∨ h.n ≤ b) ∧ b < h'.n, ⟨⟨v', vl, he, (hc.k j (at_lt hj) (by simp [djne])).trans hj, hv, ?_, ?_, ?_⟩, ⟨.inl hp.d, at_lt he⟩, ⟨.inl hp.j, Nat.lt_of_lt_of_le (at_lt hj) hn⟩, fun b hb => hb.2⟩, ?_⟩
  · intro b off n cap e
    refine ⟨?_, (hv.lt b off n cap e).2⟩
    by_cases hb : h.n ≤ b
    · exact .inr hb
    · refine .inl ?_
      apply Classical.byContradiction
      intro hX
      exact ha b (by omega) (fun off n cap e => hX (xv b off n cap e)) off n cap e
  · intro b off n cap e
    obtain ⟨row, hrow⟩ := own_at hL e
    exact ⟨.inl (xl b off n cap e), Nat.lt_of_lt_of_le (at_lt hrow) hn⟩
  · refine ownl_keep hL (fun b off n cap e => ?_) fun b hG hlt => ⟨hc.k b hlt (by simp [hG.2.1]), ⟨.inl hG.1, Nat.lt_of_lt_of_le hlt hn⟩, hG.2.1, hG.2.2.1, ha b hlt hG.2.2.2⟩
    obtain ⟨row, hrow⟩ := own_at hL e
    refine hc.k b (at_lt hrow) fun hm => ?_
    rw [List.mem_singleton] at hm
    subst hm
    rw [hd] at hrow
    unfold dkC at hrow
    cases hrow
  · exact ⟨hn, fun b hb hX => hc.k b hb (fun hm => hX (by rw [List.mem_singleton] at hm; rw [hm]; exact hp.d)), fun b hb => hb.1⟩
/-- append([]record(nil), x...). -/
theorem recs_copy {F : Nat → Prop} {H : AH} {x : AV} {l : RecL} (hx : IsSl RRec F H x l) (hl : l.length ≤ 100000000) :
    ∃ s' h', appendA (tabOf Try.prog NT0) H 61 61 (.lit (.slice none 0 0)) x = some (s', h') ∧ OwnL RRec F H.n h' s' 84 l ∧ Ext H.n H h' := by
  obtain ⟨L, h1, h2, hc, h3⟩ := hx.out
  obtain ⟨s', h', a1, a2, a3, -⟩ := OwnL.append (R := RRec) (G := F) (n0 := H.n) (xs := []) (ys := l) (M := L) .nil (T := tabOf Try.prog NT0) (t := 61) (tx := 61) (e := 84) (by kernel_rfl) (by kernel_rfl) (by kernel_rfl) (zv := .agg [.lit (.int .i64 0), .lit (.slice none 0 0)]) (by kernel_rfl) (by' := 32) (by kernel_rfl) rfl (by decide) (by decide) h1.src h1.len (h3.lift fun b hb _ => ⟨rfl, hb, fun off n cap e => by cases e⟩) (by simp only [List.length_nil]; omega) (by simp only [List.length_nil]; omega) (Nat.le_refl _)
  exact ⟨s', h', a1, a2, a3⟩
theorem own_sl {α : Type} {R : Rep α} {F G : Nat → Prop} {n0 : Nat} {h : AH} {v : AV} {e : TypeId} {xs : List α} (ho : OwnL R G n0 h v e xs) (hv : SlF F v) (hG : ∀ b, G b → F b) : IsSl R F h v xs := by
  obtain ⟨L, h1, h2⟩ := ho
  refine .mk h1.rd hv (fun b off n cap ev => ?_) (h2.lift fun b hb _ => ⟨rfl, hG b hb.1⟩)
  rcases h1.2 with ⟨hh, _⟩ | ⟨p, hh, hp, hat⟩
  · rw [hh] at ev; cases ev
  · rw [hh] at ev; cases ev; rfl
/-- What Trim does. -/
structure TrimO (X : Nat → Prop) (H h' : AH) (j d : Nat) (size base synced limit torn at_ : Int) (bs : List UInt8) (l : RecL) (sy : Int) (fr : Prop) (r : AV) : Prop where
  none : idxR at_ l = l.length ∧ at_ ≠ base + bs.length → r = .lit (.int .i64 2) ∧ h' = H
  arg : ¬ (idxR at_ l = l.length ∧ at_ ≠ base + bs.length) → ¬ (base ≤ at_ ∧ at_ ≤ sy) → r = .lit (.int .i64 22) ∧ ∃ X', PS X' h' j d size base sy limit torn bs l ∧ Nx X X' H h'
  froz : ¬ (idxR at_ l = l.length ∧ at_ ≠ base + bs.length) → base ≤ at_ ∧ at_ ≤ sy → fr → r = .lit (.int .i64 0) ∧ ∃ X', PS X' h' j d size base sy limit torn bs (if base = at_ then l.drop (idxR at_ l) else l) ∧ Nx X X' H h'
  ok : ¬ (idxR at_ l = l.length ∧ at_ ≠ base + bs.length) → base ≤ at_ ∧ at_ ≤ sy → ¬ fr → r = .lit (.int .i64 0) ∧ ∃ X', PS X' h' j d size at_ sy limit torn (bs.drop (at_ - base).toNat) (l.drop (idxR at_ l)) ∧ Nx X X' H h'
end Go.Proofs.Ytcnbamdmngaliaa.Ex
end

section

set_option linter.unusedSimpArgs false
set_option linter.unusedVariables false
set_option maxRecDepth 10000
set_option maxHeartbeats 4000000
namespace Go.Proofs.Ytcnbamdmngaliaa.Ex
open Go
structure TrimK (Y : Nat → Prop) (H h' : AH) (k e : Nat) (size base synced limit torn at_ : Int) (bs : List UInt8) (l : RecL) (sy : Int) (fr : Prop) (r : AV) : Prop where
  none : idxR at_ l = l.length ∧ at_ ≠ base + bs.length → r = .lit (.int .i64 2) ∧ Ext H.n H h'
  arg : ¬ (idxR at_ l = l.length ∧ at_ ≠ base + bs.length) → ¬ (base ≤ at_ ∧ at_ ≤ sy) → r = .lit (.int .i64 22) ∧ ∃ Y', DS Y' h' k e size base sy limit torn bs ∧ Nx Y Y' H h'
  froz : ¬ (idxR at_ l = l.length ∧ at_ ≠ base + bs.length) → base ≤ at_ ∧ at_ ≤ sy → fr → r = .lit (.int .i64 0) ∧ ∃ Y', DS Y' h' k e size base sy limit torn bs ∧ Nx Y Y' H h'
  ok : ¬ (idxR at_ l = l.length ∧ at_ ≠ base + bs.length) → base ≤ at_ ∧ at_ ≤ sy → ¬ fr → r = .lit (.int .i64 0) ∧ ∃ Y', DS Y' h' k e size at_ sy limit torn (bs.drop (at_ - base).toNat) ∧ Nx Y Y' H h'
theorem openK_x {Y : Nat → Prop} {H : AH} {e : Nat} {size base synced limit : Int} {bs : List UInt8} {v : AV} (hd : H.at e = some (ekC size base v synced limit)) (hv : IsSl RByte (fun b => Y b ∧ b ≠ e) H v bs) (hY : Y e) (hlt : ∀ b, Y b → b < H.n) (hk : DOk size base bs synced limit) (hm : limit < 0) :
    WC Try.prog (tabOf Try.prog NT0) S0 28 [.ptr e 0] H fun r h' => ∃ l a rest, Full base bs l a rest ∧ ∃ Y' K, DS Y' h' K e size base (if a < synced then a else synced) limit rest.length (bs.take (a - base).toNat) ∧ Nx Y Y' H h' ∧ r = .ptr K 0 := by
  refine WC_fn Try.func28 rfl rfl ?_
  have hkl := hk.l
  have hks := hk.s
  have hkb := hk.b
  have ld := at_lt hd
  simp only [core, zrA, zrS, zrM, zrL, zrE, reduceCtorEq, zrD, ziE, ziL, ziN, Try.ntmps28]
  obtain ⟨h1, hh1⟩ : ∃ h1, h1 = H.push (kjC e 0) := ⟨_, rfl⟩
  have E1 : Ext H.n H h1 := hh1 ▸ (Ext.refl _ _).push _ (Nat.le_refl _)
  have A1 : h1.at H.n = some (kjC e 0) := hh1 ▸ at_push_n _ _
  have n1 : h1.n = H.n + 1 := hh1 ▸ n_push _ _
  unfold kjC at hh1
  rw [← hh1]
  have hd1 := E1.at ld hd
  have hv1 := hv.ext E1 (Nat.le_refl _)
  refine (recordsE_x A1 hd1 hkb hv1 (by omega)).mono ?_
  rintro _ h2 ⟨E2, l, a, rest, vl, hf, rfl, hR⟩
  have n2 := E2.1
  have E12 := E1.trans (E2.mono (by omega))
  have A2 := E2.at (by omega) A1
  have hd2 := E12.at ld hd
  have hv2 := hv.ext E12 (Nat.le_refl _)
  have w1 := hv2.isSl
  have w2 := hv2.lenD
  have hlen := hf.1.len
  unfold kjC at A2
  have L2 := ld_at (T := tabOf Try.prog NT0) A2
  have l2 := at_lt A2
  have hw : IntKind.i64.wrap (base + (bs.length : Int) - a) = rest.length := (wrap_in (by omega) (by omega)).trans (by omega)
  simp only [core, zrA, zrS, zrM, zrL, zrE, reduceCtorEq, zrD, ziE, ziL, ziN]
  refine (endE_x hd2 w1 w2 hkb (by omega)).mono ?_
  rintro _ h3 ⟨e3, rfl⟩
  replace e3 := e3.symm
  subst e3
  obtain ⟨h4, hh4⟩ : ∃ h4, h4 = h2.put H.n (kjC e rest.length) := ⟨_, rfl⟩
  have n4 : h4.n = h2.n := hh4 ▸ n_put _ _ _
  have A4 : h4.at H.n = some (kjC e rest.length) := hh4 ▸ at_put l2
  have K4 : ∀ b, b ≠ H.n → h4.at b = h2.at b := fun b hb => hh4 ▸ at_put_ne _ (Ne.symm hb)
  unfold kjC at hh4
  have hd4 : h4.at e = some (ekC size base v synced limit) := (K4 e (by omega)).trans hd2
  have hv4 : IsSl RByte (fun b => ((Y b ∨ H.n ≤ b) ∧ b < h4.n) ∧ b ≠ e ∧ b ≠ H.n) h4 v bs := hv2.lift fun b hb hlt' => by
    have := hlt b hb.1
    exact ⟨K4 b (by omega), ⟨.inl hb.1, by omega⟩, hb.2, by omega⟩
  have hp4 : DS (fun b => (Y b ∨ H.n ≤ b) ∧ b < h4.n) h4 H.n e size base synced limit rest.length bs := ⟨⟨v, hd4, hv4⟩, A4, ⟨.inl hY, by omega⟩, ⟨.inr (Nat.le_refl _), by omega⟩, fun b hb => hb.2⟩
  have N4 : Nx Y (fun b => (Y b ∨ H.n ≤ b) ∧ b < h4.n) H h4 := ⟨by omega, fun b hb _ => (K4 b (by omega)).trans (E12.2 b hb), fun b hb => hb.1⟩
  by_cases c : rest.length = 0
  · have c1 : ((0 : Int) < (rest.length : Int)) = False := by simp only [eq_iff_iff, iff_false]; omega
    simp only [core, zrA, zrS, zrM, zrL, zrE, reduceCtorEq, zrD, ziE, ziL, ziN, L2, l2, A2, hw, ← hh4]
    have L4 := ld_at (T := tabOf Try.prog NT0) (show h4.at H.n = some (.cells [.ptr e 0, .lit (.int .i64 (rest.length : Int))] 60) from A4)
    simp only [core, zrA, zrS, zrM, zrL, zrE, reduceCtorEq, zrD, ziE, ziL, ziN, L4, n4, l2, c1]
    refine ⟨l, a, rest, hf, _, H.n, ?_, N4, rfl⟩
    rw [if_neg (by have := hk.y; omega), List.take_of_length_le (by omega)]
    exact hp4
  · have c1 : ((0 : Int) < (rest.length : Int)) = True := by simp only [eq_iff_iff, iff_true]; omega
    simp only [core, zrA, zrS, zrM, zrL, zrE, reduceCtorEq, zrD, ziE, ziL, ziN, L2, l2, A2, hw, ← hh4]
    have L4 := ld_at (T := tabOf Try.prog NT0) (show h4.at H.n = some (.cells [.ptr e 0, .lit (.int .i64 (rest.length : Int))] 60) from A4)
    simp only [core, zrA, zrS, zrM, zrL, zrE, reduceCtorEq, zrD, ziE, ziL, ziN, L4, n4, l2, c1]
    refine (cutE_x hd4 hkb hv4 (by omega) (by omega) hm).mono ?_
    rintro _ h5 ⟨rfl, C5, v5, hd5, hs5⟩
    obtain ⟨Y', q1, q2⟩ := hp4.step C5 hd5 hs5
    simp only [core, zrA, zrS, zrM, zrL, zrE, reduceCtorEq, zrD, ziE, ziL, ziN]
    exact ⟨l, a, rest, hf, Y', H.n, q1, N4.trans q2, rfl⟩
end Go.Proofs.Ytcnbamdmngaliaa.Ex
end

section

set_option linter.unusedSimpArgs false
set_option linter.unusedVariables false
set_option maxRecDepth 10000
set_option maxHeartbeats 4000000
namespace Go.Proofs.Ytcnbamdmngaliaa.Ex
open Go
theorem openJ_x {X : Nat → Prop} {H : AH} {d : Nat} {size base synced limit : Int} {bs : List UInt8} {v : AV} (hd : H.at d = some (dkC size base v synced limit)) (ho : VwB 0 H v bs) (xv : SlF X v) (hX : X d) (hlt : ∀ b, X b → b < H.n) (hk : DOk size base bs synced limit) (hm : limit < 0) :
    WC Try.prog (tabOf Try.prog NT0) S0 21 [.ptr d 0] H fun r h' => ∃ l a rest, Full base bs l a rest ∧ ∃ X' J, PS X' h' J d size base (if a < synced then a else synced) limit rest.length (bs.take (a - base).toNat) l ∧ Nx X X' H h' ∧ r = .tup [.ptr J 0, .lit (.int .i64 0)] := by
  refine WC_fn Try.func21 rfl rfl ?_
  have hkl := hk.l
  have hks := hk.s
  have hkb := hk.b
  have ld := at_lt hd
  have v1 := ho.isSl
  have v2 := ho.lenD
  have hw1 : IntKind.i64.wrap (base + (bs.length : Int) - base) = bs.length := (wrap_in (by omega) (by omega)).trans (by omega)
  simp only [core, zrA, zrS, zrM, zrL, zrE, reduceCtorEq, zrD, ziE, ziL, ziN, Try.ntmps21]
  refine (base_x hd hks.1).mono ?_
  rintro _ h1 ⟨e1, rfl⟩
  replace e1 := e1.symm
  subst e1
  simp only [core, zrA, zrS, zrM, zrL, zrE, reduceCtorEq, zrD, ziE, ziL, ziN]
  refine (end_x hd hks.1 v1 v2 hkb (by omega)).mono ?_
  rintro _ h1 ⟨e1, rfl⟩
  replace e1 := e1.symm
  subst e1
  simp only [core, zrA, zrS, zrM, zrL, zrE, reduceCtorEq, zrD, ziE, ziL, ziN]
  refine (base_x hd hks.1).mono ?_
  rintro _ h1 ⟨e1, rfl⟩
  replace e1 := e1.symm
  subst e1
  simp only [core, zrA, zrS, zrM, zrL, zrE, reduceCtorEq, zrD, ziE, ziL, ziN, hw1]
  refine (readD_x hd hks.1 hkb (ho.toSl (F := fun _ => True) fun _ _ _ _ _ => trivial) (by omega) (by omega) (by omega)).mono ?_
  rintro _ h1 ⟨E1, w, rfl, S1⟩
  rw [Int.sub_self, show (0 : Int).toNat = 0 from rfl, List.drop_zero, Int.toNat_natCast, List.take_length] at S1
  have ce : ((0 : Int) != 0) = false := by decide
  have n1 := E1.1
  simp only [core, zrA, zrS, zrM, zrL, zrE, reduceCtorEq, zrD, ziE, ziL, ziN, ce]
  obtain ⟨h2, hh2⟩ : ∃ h2, h2 = h1.push (jnC d (.lit (.slice none 0 0)) 0) := ⟨_, rfl⟩
  have E2 : Ext h1.n h1 h2 := hh2 ▸ (Ext.refl _ _).push _ (Nat.le_refl _)
  have A2 : h2.at h1.n = some (jnC d (.lit (.slice none 0 0)) 0) := hh2 ▸ at_push_n _ _
  have n2 : h2.n = h1.n + 1 := hh2 ▸ n_push _ _
  unfold jnC at hh2
  rw [← hh2]
  have hd2 := (E1.trans (E2.mono n1)).at ld hd
  refine (base_x hd2 hks.1).mono ?_
  rintro _ h3 ⟨e3, rfl⟩
  replace e3 := e3.symm
  subst e3
  simp only [core, zrA, zrS, zrM, zrL, zrE, reduceCtorEq, zrD, ziE, ziL, ziN]
  with_reducible refine any_cut (P := Try.prog) (T := tabOf Try.prog NT0) (S := S0) (E := ⟨21, [], none, none⟩) (X := fun k K => WB _ _ _ _ _ (_ :: AI.blk 0 :: k) _ K) (fun t h => (∃ l a rest s u, Full base bs l a rest ∧ Ext h1.n h1 h ∧ h.at h1.n = some (jnC d s 0) ∧ OwnR (h1.n + 1) h s 84 l ∧ isSl u = true ∧ lenD u = rest.length ∧ t.get 4 = u ∧ t.get 7 = .lit (.int .i64 a)) ∧ t.n = 73 ∧ t.get 0 = .ptr d 0 ∧ t.get 6 = .ptr h1.n 0) (fun k' K' hk => ?_) ?_
  · refine WB_ind (fun (q : RecL × Int × List UInt8) t h => (∃ s u, Ext h1.n h1 h ∧ h.at h1.n = some (jnC d s 0) ∧ Stp base bs q.1 q.2.1 q.2.2 ∧ OwnR (h1.n + 1) h s 84 q.1 ∧ IsSl RByte (fun b => b < h1.n) h u q.2.2 ∧ t.get 4 = u) ∧ t.n = 73 ∧ t.get 0 = .ptr d 0 ∧ t.get 6 = .ptr h1.n 0 ∧ t.get 7 = .lit (.int .i64 q.2.1)) (fun q => q.2.2.length) ?_ ([], base, bs) _ _ ?_
    · rintro ⟨l, a, rest⟩ t h ⟨⟨s, u, E, A, hst, hR, hu, gA⟩, hn, g0, g6, g7⟩ ih
      dsimp only at *
      have hcnt := stp_count hst
      have hle := hst.len
      have u1 := hu.isSl
      have u2 := hu.lenD
      have hcap : CapOk 1 u := by obtain ⟨L, -, -, hc, -⟩ := hu.out; exact hc
      simp only [core, zrA, zrS, zrM, zrL, zrE, reduceCtorEq, zrD, ziE, ziL, ziN, hn, g0, g6, g7, gA]
      refine (unframe_x hu (by omega)).mono ?_
      rintro _ h4 ⟨E4, c, rfl, hc⟩
      have hEn := E.1
      have n4 := E4.1
      have lJ := at_lt A
      have A4 := E4.at lJ A
      unfold jnC at A4
      have L4 := ld_at (T := tabOf Try.prog NT0) A4
      have l4 := at_lt A4
      obtain ⟨⟨cs, n, e⟩, huf⟩ : ∃ y, y = unfr rest := ⟨_, rfl⟩
      rw [← huf] at hc ⊢
      dsimp only at hc ⊢
      by_cases ce : e = 0
      · subst ce
        obtain ⟨y1, y2, y3, y4, y5, y6⟩ := unfr_out huf.symm
        have ce : (((0 : Nat) : Int) != 0) = false := by decide
        have cc1 := hc.cells
        have cc2 := hc.one
        have hwn : IntKind.i64.wrap (a + (n : Int)) = a + n := wrap_in (by omega) (by omega)
        have j1 : ((0 : Int) ≤ (n : Int)) = True := by simp only [eq_iff_iff, iff_true]; omega
        have j2 : ((n : Int) ≤ (rest.length : Int)) = True := by simp only [eq_iff_iff, iff_true]; omega
        simp only [core, zrA, zrS, zrM, zrL, zrE, reduceCtorEq, zrD, ziE, ziL, ziN, hn, g0, g6, g7, gA, ce, cc1, cc2, L4, l4]
        obtain ⟨h5, hh5⟩ : ∃ h5, h5 = h4.push (.cells [.lit (.int .i64 a), c] 84) := ⟨_, rfl⟩
        have E5 : Ext h4.n h4 h5 := hh5 ▸ (Ext.refl _ _).push _ (Nat.le_refl _)
        have A5 : h5.at h4.n = some (.cells [.lit (.int .i64 a), c] 84) := hh5 ▸ at_push_n _ _
        rw [← hh5]
        have n5 := E5.1
        have hR5 := (hR.ext E4 (Nat.le_refl _)).ext E5 (Nat.le_refl _)
        refine WOp_app (hR5.snoc (y := (a, cs)) (by kernel_rfl) (by kernel_rfl) (by kernel_rfl) (zv := .agg [.lit (.int .i64 0), .lit (.slice none 0 0)]) (by kernel_rfl) (by' := 32) (by kernel_rfl) rfl (by decide) (by decide) A5 (RRec_is.2 ⟨c, rfl, (hc.ext E5 (Nat.le_refl _)).lift fun b hb hlt => ⟨rfl, by omega, hR.apart hb⟩, by unfold I64; dsimp only; omega⟩) (by omega) (by omega) (by omega)) ?_
        rintro s6 h6 ⟨hR6, e6, f6⟩
        have v6 := hR6.isSl
        have v7 := hR6.one
        have n6 := e6.1
        have hJ6 := (e6.2 h1.n (by omega)).trans (E5.at l4 A4)
        have lJ6 := at_lt hJ6
        simp only [core, zrA, zrS, zrM, zrL, zrE, reduceCtorEq, zrD, ziE, ziL, ziN, hn, g0, g6, g7, gA, ce, cc1, cc2, u1, u2, hwn, j1, j2, hcap, hJ6, lJ6, v6, v7, Int.le_refl, Int.toNat_natCast]
        obtain ⟨h7, hh7⟩ : ∃ h7, h7 = h6.put h1.n (jnC d s6 0) := ⟨_, rfl⟩
        have n7 : h7.n = h6.n := hh7 ▸ n_put _ _ _
        have A7 : h7.at h1.n = some (jnC d s6 0) := hh7 ▸ at_put lJ6
        have K7 : ∀ b, b ≠ h1.n → h7.at b = h6.at b := fun b hb => hh7 ▸ at_put_ne _ (Ne.symm hb)
        unfold jnC at hh7
        rw [← hh7]
        have E17 : Ext h1.n h h7 := ⟨by omega, fun b hb => (K7 b (by omega)).trans ((e6.2 b (by omega)).trans ((E5.2 b (by omega)).trans (E4.2 b (by omega))))⟩
        have hsub : IsSl RByte (fun b => b < h1.n) h (subSl 1 n rest.length u) (rest.drop n) := by
          have := hu.sub (l := n) (r := rest.length) y4 (Nat.le_refl _)
          rw [List.take_length] at this
          exact this
        refine ih (l ++ [(a, cs)], a + n, rest.drop n) _ _ ⟨⟨s6, subSl 1 n rest.length u, E.trans E17, A7, hst.snoc huf.symm, ?_, hsub.lift fun b hb hlt => ⟨E17.2 b hb, hb⟩, ?_⟩, ?_⟩ ?_
        · exact ownl_keep hR6 (fun b off n cap e => K7 b (fun eb => by
            obtain ⟨row, hrow⟩ := own_at hR6 e
            subst eb
            rw [hJ6] at hrow
            cases hrow)) fun b hb hlt => ⟨K7 b (by omega), hb⟩
        · simp only [core, zrA, zrS, zrM, zrL, zrE, reduceCtorEq, zrD, ziE, ziL, ziN, hn, g0, g6, g7]
        · simp only [core, zrA, zrS, zrM, zrL, zrE, reduceCtorEq, zrD, ziE, ziL, ziN, hn, g0, g6, g7]
        · dsimp only
          rw [List.length_drop]
          omega
      · have ce2 : ((e : Int) != 0) = true := by rw [bne_iff_ne]; omega
        simp only [core, zrA, zrS, zrM, zrL, zrE, reduceCtorEq, zrD, ziE, ziL, ziN, hn, g0, g6, g7, gA, ce2]
        refine hk _ _ ⟨⟨l, a, rest, s, u, ⟨hst, by rw [← huf]; exact ce⟩, E.trans (E4.mono hEn), A4, hR.ext E4 (Nat.le_refl _), u1, u2, ?_, ?_⟩, ?_⟩
        · simp only [core, zrA, zrS, zrM, zrL, zrE, reduceCtorEq, zrD, ziE, ziL, ziN, hn, g0, g6, g7, gA]
        · simp only [core, zrA, zrS, zrM, zrL, zrE, reduceCtorEq, zrD, ziE, ziL, ziN, hn, g0, g6, g7]
        · simp only [core, zrA, zrS, zrM, zrL, zrE, reduceCtorEq, zrD, ziE, ziL, ziN, hn, g0, g6, g7]
    · simp only [core, zrA, zrS, zrM, zrL, zrE, reduceCtorEq, zrD, ziE, ziL, ziN]
      have V1 := VwB.ofOwn S1
      exact ⟨_, w, E2, A2, .nil, .nil, (V1.toSl fun b off n cap e => (V1.lt _ _ _ _ e).2).ext E2 (Nat.le_refl _), rfl⟩
  · rintro t h ⟨⟨l, a, rest, s, u, hf, E, A, hR, u1, u2, gA, gB⟩, hn, g0, g6⟩
    have hEn := E.1
    have hlen := hf.1.len
    have hdh := E.at (Nat.lt_of_lt_of_le ld n1) (E1.at ld hd)
    have V := (ho.ext E1).ext E
    have lJ := at_lt A
    have hR0 : OwnL RRec (fun b => h1.n + 1 ≤ b) 0 h s 84 l := by
      obtain ⟨L, q1, q2⟩ := hR
      exact ⟨L, ⟨q1.1, q1.2.elim .inl fun ⟨p, a, b, c⟩ => .inr ⟨p, a, Nat.zero_le _, c⟩⟩, q2⟩
    have sJ : ∀ b off n cap, s = .sl b off n cap → h1.n + 1 ≤ b ∧ b < h.n := fun b off n cap e => by
      obtain ⟨row, hrow⟩ := own_at hR e
      refine ⟨?_, at_lt hrow⟩
      obtain ⟨L, q1, q2⟩ := hR
      rcases q1.2 with ⟨hh, _⟩ | ⟨p, hh, hp, hat⟩
      · rw [hh] at e; cases e
      · rw [hh] at e; cases e; exact hp
    have mk : ∀ (g : AH) (torn : Int), g.n = h.n → g.at h1.n = some (jnC d s torn) → (∀ b, b ≠ h1.n → g.at b = h.at b) →
        PS (fun b => (X b ∨ H.n ≤ b) ∧ b < g.n) g h1.n d size base synced limit torn bs l ∧ Nx X (fun b => (X b ∨ H.n ≤ b) ∧ b < g.n) H g := fun g torn gn gA gK => by
      have hXlt : ∀ b, X b → b < H.n := hlt
      refine ⟨⟨⟨v, s, (gK d (by omega)).trans hdh, gA, V.lift fun b off n cap e => gK b (fun eb => ?_), fun b off n cap e => ⟨.inl (xv b off n cap e), by have := V.lt b off n cap e; omega⟩, fun b off n cap e => ?_, ?_⟩, ⟨.inl hX, by omega⟩, ⟨.inr n1, by omega⟩, fun b hb => hb.2⟩, ⟨by omega, fun b hb _ => (gK b (by omega)).trans ((E.2 b (by omega)).trans (E1.2 b hb)), fun b hb => hb.1⟩⟩
      · have := hXlt b (xv b off n cap e)
        omega
      · have := sJ b off n cap e
        exact ⟨.inr (by omega), by omega⟩
      · refine ownl_keep hR0 (fun b off n cap e => gK b (by have := sJ b off n cap e; omega)) fun k hk hlt2 => ⟨gK k (by omega), ⟨.inr (by omega), by omega⟩, by omega, by omega, fun off n cap e => ?_⟩
        have := hXlt k (xv k off n cap e)
        omega
    by_cases c : rest.length = 0
    · have c1 : ((0 : Int) < (rest.length : Int)) = False := by simp only [eq_iff_iff, iff_false]; omega
      simp only [core, zrA, zrS, zrM, zrL, zrE, reduceCtorEq, zrD, ziE, ziL, ziN, hn, g0, g6, gA, gB, u1, u2, c1]
      obtain ⟨q1, q2⟩ := mk h 0 rfl A fun b _ => rfl
      refine ⟨l, a, rest, hf, _, h1.n, ?_, q2, rfl⟩
      rw [if_neg (by have := hk.y; omega), List.take_of_length_le (by omega), show ((rest.length : Nat) : Int) = 0 by omega]
      exact q1
    · have c1 : ((0 : Int) < (rest.length : Int)) = True := by simp only [eq_iff_iff, iff_true]; omega
      have A' := A
      unfold jnC at A'
      have L4 := ld_at (T := tabOf Try.prog NT0) A'
      simp only [core, zrA, zrS, zrM, zrL, zrE, reduceCtorEq, zrD, ziE, ziL, ziN, hn, g0, g6, gA, gB, u1, u2, c1, A', lJ]
      obtain ⟨h4, hh4⟩ : ∃ h4, h4 = h.put h1.n (jnC d s rest.length) := ⟨_, rfl⟩
      have n4 : h4.n = h.n := hh4 ▸ n_put _ _ _
      have A4 : h4.at h1.n = some (jnC d s rest.length) := hh4 ▸ at_put lJ
      have K4 : ∀ b, b ≠ h1.n → h4.at b = h.at b := fun b hb => hh4 ▸ at_put_ne _ (Ne.symm hb)
      unfold jnC at hh4
      rw [← hh4]
      obtain ⟨q1, q2⟩ := mk h4 rest.length n4 A4 K4
      obtain ⟨va, vl, hda, hja, hoa, xva, xla, hLa⟩ := q1.e
      refine (cutD_x hda hks.1 hkb (hoa.toSl (F := fun _ => True) fun _ _ _ _ _ => trivial) (by omega) (by omega) hm).mono ?_
      rintro _ h5 ⟨rfl, m5⟩
      have hs3 := hoa.sl3 (k := (a - base).toNat) (by omega)
      have apd : ∀ b off n cap, sl3 (a - base).toNat va = .sl b off n cap → b ≠ d := fun b off n cap e eb => hs3.2 d (hoa.sep hda (by decide)) off n cap (by rw [← eb]; exact e)
      obtain ⟨X', p1, p2⟩ := q1.step hda hja hoa xva xla hLa (m5.cg (by simp)) m5.at_ (hs3.1.lift fun b off n cap e => m5.ne b (apd b off n cap e)) fun b _ h => hs3.2 b h
      simp only [core, zrA, zrS, zrM, zrL, zrE, reduceCtorEq, zrD, ziE, ziL, ziN, hn, g0, g6]
      have ce : ((0 : Int) != 0) = false := by decide
      simp only [core, zrA, zrS, zrM, zrL, zrE, reduceCtorEq, zrD, ziE, ziL, ziN, hn, g0, g6, ce]
      exact ⟨l, a, rest, hf, X', h1.n, p1, q2.trans p2, rfl⟩
end Go.Proofs.Ytcnbamdmngaliaa.Ex
end

section

set_option linter.unusedSimpArgs false
set_option linter.unusedVariables false
set_option maxRecDepth 10000
set_option maxHeartbeats 4000000
namespace Go.Proofs.Ytcnbamdmngaliaa.Ex
open Go
section
variable {P : Program} {T : TT} {t : TM} {h : AH} {d : Option Tmp} {ty : TypeId} {ps : String} {af : Array Edge} {g : Option (Nat × Bool)}
/-- Bytes of any slice as a text. -/
def conB (h : AH) (r : AR) : Option (List UInt8) → AR
  | some bs => some (.val (.lit (.string ⟨bs.toArray⟩)), h)
  | none => r
theorem lit_con {i : Nat} (hv : t.get i = .lit (.slice none 0 0)) : litOp Try.prog ⟨d, .convert 22 9 (.tmp i), ty, ps, af, g⟩ t = some (.val (.lit (.string ⟨#[]⟩))) := by
  have e0 : litEnv t (.tmp i) = .slice none 0 0 := by simp [litEnv, ev_tmp, hv, toVal]
  unfold litOp
  rw [if_pos (by simp [notSelect, Op.operands, litAll, ev_tmp, hv, toVal])]
  show ofPR (pur Try.prog (do let x ← convert 22 9 (litEnv t (.tmp i)); pure (Next.value x))) = _
  rw [e0]
  kernel_rfl
theorem a_conB {i : Nat} : aConR Try.prog (tabOf Try.prog NT0) ⟨d, .convert 22 9 (.tmp i), ty, ps, af, g⟩ t h 22 9 (.tmp i) = conB h (aConQ Try.prog (tabOf Try.prog NT0) ⟨d, .convert 22 9 (.tmp i), ty, ps, af, g⟩ t h 22 9 (.tmp i)) (bytesOf h (t.get i)) := by
  unfold conB
  split
  · rename_i bs hb
    unfold bytesOf at hb
    split at hb
    · rename_i hv
      obtain rfl := Option.some.inj hb
      have hl := lit_con (d := d) (ty := ty) (ps := ps) (af := af) (g := g) hv
      unfold aConR aConvert
      rw [ev_tmp, hv]
      unfold orLit
      simp only [hl]
    · rename_i b off len cap hv
      rw [a_conM, hv]
      unfold conM
      simp only [hb]
    · cases hb
  · rfl
theorem pb_seql {e : TypeId} {s : ByteArray} : pur P (binOp .eql e (.string s) (.string s)) = some (.ok (.bool true)) := by
  simp [binOp, Op.stringOp]
  rfl
end
theorem num_x {H : AH} {n : Int} : WC Try.prog (tabOf Try.prog NT0) S0 8 [.lit (.int .i64 n)] H fun r h' => h' = H ∧ r = .lit (.int .i64 n) := by
  refine WC_fn Try.func8 rfl rfl ?_
  simp only [core, zrA, zrS, zrM, zrL, zrE, reduceCtorEq, zrD, ziE, ziL, ziN, Try.ntmps8]
theorem same_x {H : AH} {u v : AV} {bs : List UInt8} {F G : Nat → Prop} (hu : IsSl RByte F H u bs) (hv : IsSl RByte G H v bs) :
    WC Try.prog (tabOf Try.prog NT0) S0 35 [u, v] H fun r h' => h' = H ∧ r = .lit (.bool true) := by
  refine WC_fn Try.func35 rfl rfl ?_
  have b1 := hu.bytesOf
  have b2 := hv.bytesOf
  rcases hu.bytesRow with ⟨rfl, -⟩ | ⟨b, off, cap, row, rfl, -⟩ <;> rcases hv.bytesRow with ⟨rfl, -⟩ | ⟨b', off', cap', row', rfl, -⟩ <;>
  · simp only [core, zrA, zrS, zrM, zrL, zrE, reduceCtorEq, zrD, ziE, ziL, ziN, Try.ntmps35, a_conB, b1, b2, conB, pb_seql]
    done
end Go.Proofs.Ytcnbamdmngaliaa.Ex
end

section

set_option linter.unusedSimpArgs false
set_option linter.unusedVariables false
set_option maxRecDepth 10000
set_option maxHeartbeats 4000000
namespace Go.Proofs.Ytcnbamdmngaliaa.Ex
open Go
/-- A round of a range over a function. -/
def WR (P : Program) (T : TT) (S : Sums) (l : Nat) (args : List AV) (h : AH) (Q : AV → AH → Prop) : Prop := W P T S (.round l args) h fun x h2 => ∃ v cm, x = .ended (.ret v) cm ∧ Q v h2
theorem WR.mono {P : Program} {T : TT} {S : Sums} {l : Nat} {args : List AV} {h : AH} {Q Q' : AV → AH → Prop} (hw : WR P T S l args h Q) (hq : ∀ v h', Q v h' → Q' v h') : WR P T S l args h Q' := W.mono hw fun o h' ⟨v, cm, e, hv⟩ => ⟨v, cm, e, hq v h' hv⟩
theorem call_yield {P : Program} {l : Nat} {args : List AV} : callA P (.fn (.yield l) [] []) args = some (.round l args) := rfl
theorem WOpD_round {P : Program} {T : TT} {S : Sums} {E : FE} {t : TM} {ops : Array Oper} {M : MO ops} {i : Nat} {o : Oper} {l : List Nat} {rs : List (Nat × RD × AV)} {k : List AI} {K : KK} {g : Nat} {a : List AV} {h1 : AH} :
    WOpD P T S E t M i o l rs k K .acts (some (.round g a, h1)) = WR P T S g a h1 fun v h2 => WDM P T S E (setTmp t o.dst v) M l rs k h2 K := rfl
section
variable {P : Program} {T : TT} {S : Sums} {E : FE} {t : TM} {k : List AI} {h : AH} {K : KK}
/-- A range over a function; its loop has a name. -/
theorem WB_rangeW {f : Operand} {ps : Array Tmp} {a b : Code} {fv : AV} {g : FuncId} {args : List AV} (hro : E.ro = none) (hf : evalA t f = some fv) (hc : callA P fv [.fn (.yield (h.n + 1)) [] []] = some (.enter g args))
    (hw : ∀ LO : ALoop, LO = ⟨.ready, none, E.fn, t, ps.toList, a, b⟩ → WC P T S g args ((h.push .defd).push (.loop LO)) fun _ h2 =>
      ∃ lo, h2.at (h.n + 1) = some (.loop lo) ∧ lo.state ≠ .busy ∧ WB P T S { E with defers := .coll h.n :: E.defers } t ((lo.pending.map AI.code).toList ++ k) (h2.put (h.n + 1) (.loop { lo with state := .exhausted })) fun j t' h' => h'.at h.n = some .defd ∧ K j t' (h'.put h.n .gone)) :
    WB P T S E t (.code (.rangeFunc f ps a b) :: k) h K := WB_rangeFunc hro hf hc (hw _ rfl)
theorem WR_round {l : Nat} {LO : ALoop} {fn : FuncId} {ps : List Tmp} {a b : Code} {args : List AV} {Q : AV → AH → Prop} (e : LO = ⟨.ready, none, fn, t, ps, a, b⟩) (hl : h.at l = some (.loop LO)) (hn : args.length = ps.length)
    (hw : WB P T S { fn := fn, ro := some l } (setParams t ps args) [.code a, .beginRound, .code b] h fun j _ h' =>
      ∃ lo', h'.at l = some (.loop lo') ∧ Q (.lit (.bool j.isNone)) (h'.put l (.loop { lo' with state := if j.isNone then .ready else .done, pending := j }))) : WR P T S l args h Q := by
  subst e
  exact W_round hl hn hw
theorem sp_cons {i : Nat} {ts : List Tmp} {v : AV} {vs : List AV} : setParams t (i :: ts) (v :: vs) = setParams (t.set i v) ts vs := rfl
theorem sp_nil : setParams t [] [] = t := rfl
def busyL (LO : ALoop) : ALoop := { LO with state := .busy }
theorem WB_beginL {l : Nat} {LO : ALoop} {fn : FuncId} {t0 : TM} {ps : List Tmp} {a b : Code} (e : LO = ⟨.ready, none, fn, t0, ps, a, b⟩) (hro : E.ro = some l) (hl : h.at l = some (.loop LO)) (hw : WB P T S E t k (h.put l (.loop (busyL LO))) K) : WB P T S E t (.beginRound :: k) h K := by
  subst e
  exact WB_begin hro hl rfl hw
end
end Go.Proofs.Ytcnbamdmngaliaa.Ex
end

section

set_option linter.unusedSimpArgs false
set_option linter.unusedVariables false
set_option maxRecDepth 10000
set_option maxHeartbeats 4000000
namespace Go.Proofs.Ytcnbamdmngaliaa.Ex
open Go
theorem recordsJ_x {X : Nat → Prop} {H : AH} {j d : Nat} {size base synced limit torn : Int} {bs : List UInt8} {l : RecL} (hp : PS X H j d size base synced limit torn bs l) (hl : l.length ≤ 100000000) :
    WC Try.prog (tabOf Try.prog NT0) S0 42 [.ptr j 0] H fun r h' => Ext H.n H h' ∧ r = .fn (.func 58) [] [.ptr H.n 0] ∧ ∃ vl', h'.at H.n = some (.cells [vl'] 61) ∧ IsSl RRec (fun b => b < h'.n) h' vl' l := by
  refine WC_fn Try.func42 rfl rfl ?_
  obtain ⟨v, vl, hd, hj, ho, xv, xl, hL⟩ := hp.e
  have hj' := hj
  have lj := at_lt hj
  have hI : IsSl RRec X H vl l := own_sl hL xl fun b h => h.1
  have s1 := hI.isSl
  have s2 := hI.lenD
  simp only [core, zrA, zrS, zrM, zrL, zrE, reduceCtorEq, zrD, ziE, ziL, ziN, Try.ntmps42]
  obtain ⟨h1, hh1⟩ : ∃ h1, h1 = H.push (.cells [.lit (.slice none 0 0)] 61) := ⟨_, rfl⟩
  have E1 : Ext H.n H h1 := hh1 ▸ (Ext.refl _ _).push _ (Nat.le_refl _)
  have A1 : h1.at H.n = some (.cells [.lit (.slice none 0 0)] 61) := hh1 ▸ at_push_n _ _
  have n1 : h1.n = H.n + 1 := hh1 ▸ n_push _ _
  rw [← hh1]
  have hj1 := E1.at lj hj
  refine (is_x hj1).mono ?_
  rintro _ h2 ⟨e1, rfl⟩
  replace e1 := e1.symm
  subst e1
  unfold jnC at hj1
  have L1 := ld_at (T := tabOf Try.prog NT0) hj1
  have lj1 := at_lt hj1
  have LA := ld_at (T := tabOf Try.prog NT0) A1
  have la := at_lt A1
  simp only [core, zrA, zrS, zrM, zrL, zrE, reduceCtorEq, zrD, ziE, ziL, ziN]
  have sn : isSl (.lit (.slice none 0 0)) = true := rfl
  rw [WB_regionD [0, 1, 2, 3, 4, 5, 6] 278145852801024 (by kernel_rfl)]
  repeat ((with_reducible refine WDM_cons ?_; simp only [dw1]; try simp only [dw2, zrA, zrM, zrR, zrO, zrE]); simp only [core, zrA, zrS, zrM, zrL, zrE, reduceCtorEq, zrD, ziE, ziL, ziN, cored, L1, lj1, LA, la, s1, sn, same_sl])
  refine WOpD_app (recs_copy (hI.ext E1 (Nat.le_refl _)) hl) ?_
  rintro s3 h3 ⟨o3, E3⟩
  have A3 := E3.at la A1
  have la3 := at_lt A3
  have hj3 := E3.at lj1 hj1
  have L3 := ld_at (T := tabOf Try.prog NT0) hj3
  have lj3 := at_lt hj3
  have LA3 := ld_at (T := tabOf Try.prog NT0) A3
  have u1 := o3.isSl
  have u2 := o3.one
  repeat ((with_reducible refine WDM_cons ?_; simp only [dw1]; try simp only [dw2, zrA, zrM, zrR, zrO, zrE]); simp only [core, zrA, zrS, zrM, zrL, zrE, reduceCtorEq, zrD, ziE, ziL, ziN, cored, A3, la3, L3, lj3, LA3, u1, u2, s1, sn, same_sl, same_one])
  have n3 := E3.1
  refine ⟨(E1.trans (E3.mono (by omega))).put _ (Nat.le_refl _), s3, rfl, ?_⟩
  have hs3 : IsSl RRec (fun b => X b ∨ h1.n ≤ b) h3 s3 l := own_sl o3 (fun b off n cap e => by
    obtain ⟨L, q1, q2⟩ := o3
    rcases q1.2 with ⟨hh, _⟩ | ⟨p, hh, hp, hat⟩
    · rw [hh] at e; cases e
    · rw [hh] at e; cases e; exact .inr hp) fun b h => .inl h
  exact hs3.lift fun b hb hlt => ⟨at_put_ne _ (fun e => by
    rcases hb with h | h
    · have := hp.lt b h; omega
    · omega), hlt⟩
theorem records1_x {F : Nat → Prop} {H : AH} {s : AV} {l : RecL} {q lp : Nat} (hp : H.at q = some (.cells [s] 61)) (hv : IsSl RRec F H s l) (hl : l.length ≤ 100000000) (hb : ∀ x ∈ l, x.2.length ≤ 100000000)
    (J : Nat → AH → Prop) (R : AH → Prop) (hJ : ∀ i h, J i h → Ext H.n H h) (hE : ∀ i h h', J i h → Ext h.n h h' → J i h')
    (hr : ∀ i x h0 h vb, l[i]? = some x → J i h0 → Ext h0.n h0 h → IsSl RByte (fun b => h0.n ≤ b) h vb x.2 → WR Try.prog (tabOf Try.prog NT0) S0 lp [.lit (.int .i64 x.1), vb] h fun r h2 => ∃ b, r = .lit (.bool b) ∧ (b = true → J (i + 1) h2) ∧ (b = false → R h2))
    {h : AH} (h0 : J 0 h) : WC Try.prog (tabOf Try.prog NT0) S0 58 [.fn (.yield lp) [] [], .ptr q 0] h fun _ h2 => J l.length h2 ∨ R h2 := by
  refine WC_fn Try.func58 rfl rfl ?_
  have s1 := hv.isSl
  have s2 := hv.lenD
  have E0 := hJ _ _ h0
  have P0 := E0.at (at_lt hp) hp
  have LP0 := ld_at (T := tabOf Try.prog NT0) P0
  have lp0 := at_lt P0
  simp only [core, zrA, zrS, zrM, zrL, zrE, reduceCtorEq, zrD, ziE, ziL, ziN, Try.ntmps58, s1, s2, LP0, lp0]
  refine WB_for l.length (fun i t h => J i h ∧ t.n = 20 ∧ t.get 0 = .fn (.yield lp) [] [] ∧ t.get 1 = .ptr q 0 ∧ t.get 5 = s ∧ t.get 6 = .lit (.int .i64 l.length) ∧ t.get 7 = .lit (.int .i64 i)) ?_ ?_ _ _ ?_
  · rintro i t h hlt hc ⟨hj, hn, g0, g1, g5, g6, g7⟩ ih
    have E := hJ _ _ hj
    obtain ⟨x, hx⟩ : ∃ x, l[i]? = some x := ⟨_, List.getElem?_eq_getElem hlt⟩
    have hw := wrap_succ hlt (by omega)
    obtain ⟨c, hc1, hld, hld0⟩ := hv.atE (T := tabOf Try.prog NT0) E RRec_z hx
    obtain ⟨vb, rfl, hvb, hx0⟩ := RRec_is.1 hc1
    have b1 := hvb.isSl
    have b2 := hvb.one
    have b3 := hvb.cells
    simp only [core, zrA, zrS, zrM, zrL, zrE, reduceCtorEq, zrD, ziE, ziL, ziN, s1, s2, hn, g0, g1, g5, g6, g7, hlt, hc, hw, hld, hld0, b1, b2, b3]
    obtain ⟨h1, hh1⟩ : ∃ h1, h1 = h.push (.cells [.lit (.int .i64 x.1), vb] 84) := ⟨_, rfl⟩
    have e1 : Ext h.n h h1 := hh1 ▸ (Ext.refl _ _).push _ (Nat.le_refl _)
    have X1 : h1.at h.n = some (.cells [.lit (.int .i64 x.1), vb] 84) := hh1 ▸ at_push_n _ _
    have nx1 := at_lt X1
    have LX1 := ld_at (T := tabOf Try.prog NT0) X1
    rw [← hh1]
    clear hh1
    rw [WB_regionD [0, 1, 2, 3, 4, 5, 6, 7] 9169073788988555264 (by kernel_rfl)]
    repeat ((with_reducible refine WDM_cons ?_; simp only [dw1]; try simp only [dw2, zrA, zrM, zrR, zrO, zrE]); simp only [core, zrA, zrS, zrM, zrL, zrE, reduceCtorEq, zrD, ziE, ziL, ziN, cored, hn, g0, g1, g5, g6, g7, LX1, nx1, b1, b2, b3, same_sl])
    refine WOpD_app (OwnB.app (n0 := h1.n) .nil (hvb.ext (E.trans (e1.mono E.1)) (Nat.le_refl _)) (by have := hb x (List.mem_of_getElem? hx); simp only [List.length_nil]; omega) (Nat.le_refl _)) ?_
    rintro s3 h3 ⟨o3, e3⟩
    rw [List.nil_append] at o3
    have n1 := e1.1
    have e13 := e1.trans (e3.mono e1.1)
    have X3 := e3.at nx1 X1
    have nx3 := at_lt X3
    have LX3 := ld_at (T := tabOf Try.prog NT0) X3
    have u1 := o3.isSl
    have u2 := o3.one
    repeat ((with_reducible refine WDM_cons ?_; simp only [dw1]; try simp only [dw2, zrA, zrM, zrR, zrO, zrE]); simp only [core, zrA, zrS, zrM, zrL, zrE, reduceCtorEq, zrD, ziE, ziL, ziN, cored, hn, g0, g1, g5, g6, g7, LX3, nx3, b1, b2, b3, u1, u2, same_sl, same_int, WOpD_round, call_yield])
    refine (hr i x h h3 s3 hx hj e13 (o3.toSl (fun _ h => h.elim) fun b h => by omega)).mono ?_
    rintro _ h5 ⟨b, rfl, k1, k2⟩
    cases b with
    | true =>
      repeat ((with_reducible refine WDM_cons ?_; simp only [dw1]; try simp only [dw2, zrA, zrM, zrR, zrO, zrE]); simp only [core, zrA, zrS, zrM, zrL, zrE, reduceCtorEq, zrD, ziE, ziL, ziN, cored, hn, g0, g1, g5, g6, g7, hw])
      refine ih _ _ ⟨k1 rfl, ?_⟩
      simp only [core, zrA, zrS, zrM, zrL, zrE, reduceCtorEq, zrD, ziE, ziL, ziN, hn, g0, g1, g5, g6, g7]
    | false =>
      repeat ((with_reducible refine WDM_cons ?_; simp only [dw1]; try simp only [dw2, zrA, zrM, zrR, zrO, zrE]); simp only [core, zrA, zrS, zrM, zrL, zrE, reduceCtorEq, zrD, ziE, ziL, ziN, cored, hn, g0, g1, g5, g6, g7, hw])
      exact .inr (k2 rfl)
  · rintro t h hc ⟨hj, hn, g0, g1, g5, g6, g7⟩
    simp only [core, zrA, zrS, zrM, zrL, zrE, reduceCtorEq, zrD, ziE, ziL, ziN, s1, s2, hn, g0, g1, g5, g6, g7, hc]
    exact ⟨by simp, .inl hj⟩
  · simp only [core, zrA, zrS, zrM, zrL, zrE, reduceCtorEq, zrD, ziE, ziL, ziN]
    exact ⟨h0, rfl⟩
end Go.Proofs.Ytcnbamdmngaliaa.Ex
end

section

set_option linter.unusedSimpArgs false
set_option linter.unusedVariables false
set_option maxRecDepth 10000
set_option maxHeartbeats 4000000
namespace Go.Proofs.Ytcnbamdmngaliaa.Ex
open Go
section
variable {P : Program} {T : TT} {t : TM} {h : AH} {d : Option Tmp} {ty : TypeId} {ps : String} {af : Array Edge} {g : Option (Nat × Bool)} {e : TypeId}
def isFnT (T : TT) (t : TypeId) : Bool := match und T t with
  | some (.func ..) => true
  | _ => false
/-- A function held against nil. -/
theorem a_eqnilf {i : Nat} {f : TypeId} (hT : isFnT T e = true) : aop P T ⟨d, .binOp .eql e (.tmp i) (.const .nilFunc) f, ty, ps, af, g⟩ t h = (match t.get i with
    | .fn (.func _) [] (_ :: _) => some (.val (.lit (.bool false)), h)
    | _ => aBin P T ⟨d, .binOp .eql e (.tmp i) (.const .nilFunc) f, ty, ps, af, g⟩ t h .eql e (.tmp i) (.const .nilFunc)) := by
  rw [a_bin]
  split
  · rename_i k c cs hv
    unfold isFnT at hT
    split at hT
    case h_2 => cases hT
    rename_i hu
    have hl : litOp P ⟨d, .binOp .eql e (.tmp i) (.const .nilFunc) f, ty, ps, af, g⟩ t = none := by
      unfold litOp
      rw [if_neg]
      simp [Op.operands, litAll, ev_tmp, hv, toVal]
    unfold aBin
    simp only [ev_tmp, hv, ev_nilf]
    simp only [orLit, hl, aSame, hu, ev_tmp, hv, ev_nilf, sameA]
  · rfl
end
theorem rdR_append (at_ : Int) (x : Int × List UInt8) : ∀ l : RecL, rdR at_ (l ++ [x]) = if (rdR at_ l).2 = 0 then rdR at_ l else if x.1 = at_ then (x.2, 0) else ([], 2)
  | [] => by
    show rdR at_ [x] = if (2 : Int) = 0 then _ else _
    rw [if_neg (by decide)]
    rfl
  | y :: l => by
    have ih := rdR_append at_ x l
    show (if y.1 = at_ then (y.2, 0) else rdR at_ (l ++ [x])) = if (rdR at_ (y :: l)).2 = 0 then rdR at_ (y :: l) else _
    by_cases c : y.1 = at_
    · rw [show rdR at_ (y :: l) = (y.2, 0) from if_pos c, if_pos c, if_pos rfl]
    · rw [show rdR at_ (y :: l) = rdR at_ l from if_neg c, if_neg c, ih]
theorem rdR_none {at_ : Int} : ∀ {l : RecL}, (∀ x ∈ l, x.1 ≠ at_) → rdR at_ l = ([], 2)
  | [], _ => rfl
  | x :: l, h => by
    show (if x.1 = at_ then (x.2, (0 : Int)) else rdR at_ l) = _
    rw [if_neg (h x (by simp)), rdR_none fun y hy => h y (by simp [hy])]
/-- Each record is found at its place. -/
theorem stp_rdR {at0 a : Int} {bs r : List UInt8} {l : RecL} (h : Stp at0 bs l a r) : ∀ x ∈ l, rdR x.1 l = (x.2, 0) := by
  induction h with
  | nil => simp
  | snoc h hu ih =>
    rename_i l a r c n
    intro x hx
    rw [List.mem_append, List.mem_singleton] at hx
    rw [rdR_append]
    rcases hx with hx | rfl
    · rw [ih x hx]
      simp
    · rw [rdR_none fun y hy => by have := stp_item h y hy; dsimp only; omega]
      simp
theorem full_first {base a : Int} {bs : List UInt8} {l : RecL} (h : Stp base bs l a []) : (l = [] → a = base) ∧ ∀ x l', l = x :: l' → x.1 = base := by
  refine ⟨fun e => ?_, fun x l' e => ?_⟩
  · rcases h.head with ⟨-, e2, -⟩ | ⟨c, n, l2, -, e2, -⟩
    · exact e2
    · rw [e] at e2; cases e2
  · rcases h.head with ⟨e2, -⟩ | ⟨c, n, l2, -, e2, -⟩
    · rw [e] at e2; cases e2
    · rw [e] at e2; cases e2; rfl
structure St (n0 p : Nat) (B : Int) (h : AH) (X Y : Nat → Prop) (j d k e : Nat) (size base synced limit torn : Int) (bs : List UInt8) (l : RecL) : Prop where
  pr : h.at p = some (.cells [.ptr d 0, .ptr j 0, .ptr e 0, .ptr k 0] 40)
  ps : PS X h j d size base synced limit torn bs l
  ds : DS Y h k e size base synced limit torn bs
  dj : ∀ b, X b → ¬ Y b
  pX : ¬ X p
  pY : ¬ Y p
  n0 : ∀ b, X b ∨ Y b ∨ b = p → n0 ≤ b
  ok : DOk size base bs synced limit
  full : Full base bs l (base + bs.length) []
  b : base + bs.length ≤ B
theorem St.ext {n0 p : Nat} {B : Int} {h h' : AH} {X Y : Nat → Prop} {j d k e : Nat} {size base synced limit torn : Int} {bs : List UInt8} {l : RecL} (s : St n0 p B h X Y j d k e size base synced limit torn bs l) (E : Ext h.n h h') : St n0 p B h' X Y j d k e size base synced limit torn bs l :=
  ⟨E.at (at_lt s.pr) s.pr, s.ps.ext E, s.ds.ext E, s.dj, s.pX, s.pY, s.n0, s.ok, s.full, s.b⟩
theorem St.len {n0 p : Nat} {B : Int} {h : AH} {X Y : Nat → Prop} {j d k e : Nat} {size base synced limit torn : Int} {bs : List UInt8} {l : RecL} (s : St n0 p B h X Y j d k e size base synced limit torn bs l) : l.length ≤ 100000000 ∧ bs.length ≤ 67108864 ∧ ∀ x ∈ l, x.2.length ≤ 100000000 := by
  have h1 := stp_count s.full.1
  have h2 := s.ok.l
  have h3 := s.ok.s
  refine ⟨by omega, by omega, fun x hx => ?_⟩
  have := stp_item s.full.1 x hx
  omega
theorem alike_x {n0 p : Nat} {B : Int} {H : AH} {X Y : Nat → Prop} {j d k e : Nat} {size base synced limit torn : Int} {bs : List UInt8} {l : RecL} (s : St n0 p B H X Y j d k e size base synced limit torn bs l) :
    WC Try.prog (tabOf Try.prog NT0) S0 17 [.ptr p 0] H fun r h' => Ext H.n H h' ∧ r = .lit (.bool true) := by
  refine WC_fn Try.func17 rfl rfl ?_
  have hlen := s.len
  have hkb := s.ok.b
  have hks := s.ok.s
  have hpr := s.pr
  have lpr := at_lt hpr
  have LPR := ld_at (T := tabOf Try.prog NT0) hpr
  simp only [core, zrA, zrS, zrM, zrL, zrE, reduceCtorEq, zrD, ziE, ziL, ziN, Try.ntmps17, LPR, lpr]
  obtain ⟨h1, hh1⟩ : ∃ h1, h1 = (H.push (.cells [.ptr p 0] 36)).push (.cells [.lit (.bool false)] 4) := ⟨_, rfl⟩
  have E1 : Ext H.n H h1 := hh1 ▸ ((Ext.refl _ _).push _ (Nat.le_refl _)).push _ (by rw [n_push]; omega)
  have A1 : h1.at H.n = some (.cells [.ptr p 0] 36) := by rw [hh1, at_push_lt _ (by rw [n_push]; omega)]; exact at_push_n _ _
  have B1 : h1.at (H.n + 1) = some (.cells [.lit (.bool false)] 4) := by
    have := at_push_n (H.push (.cells [.ptr p 0] 36)) (.cells [.lit (.bool false)] 4)
    rw [n_push] at this
    rw [hh1]; exact this
  have n1 : h1.n = H.n + 2 := by rw [hh1, n_push, n_push]
  rw [← hh1]
  have S1 := s.ext E1
  obtain ⟨ue, he1, hue⟩ := S1.ds.es
  have LP1 := ld_at (T := tabOf Try.prog NT0) S1.pr
  have lp1 := at_lt S1.pr
  simp only [core, zrA, zrS, zrM, zrL, zrE, reduceCtorEq, zrD, ziE, ziL, ziN, LP1, lp1]
  refine (recordsE_x S1.ds.ks he1 hkb hue (by omega)).mono ?_
  rintro _ h2 ⟨E2, l', a', rest', vE, hf', rfl, hR⟩
  obtain ⟨rfl, rfl, rfl⟩ := Full.uniq l l' s.full hf'
  have n2 := E2.1
  have r2 := hR.one
  have r1 := hR.isSl
  have r3 := hR.lenD
  simp only [core, zrA, zrS, zrM, zrL, zrE, reduceCtorEq, zrD, ziE, ziL, ziN, r2]
  obtain ⟨h3, hh3⟩ : ∃ h3, h3 = h2.push (.cells [vE] 71) := ⟨_, rfl⟩
  have E3 : Ext h2.n h2 h3 := hh3 ▸ (Ext.refl _ _).push _ (Nat.le_refl _)
  have A3 : h3.at h2.n = some (.cells [vE] 71) := hh3 ▸ at_push_n _ _
  have n3 : h3.n = h2.n + 1 := by rw [hh3, n_push]
  rw [← hh3]
  have E13 := E2.trans (E3.mono n2)
  have S3 := S1.ext E13
  have LP3 := ld_at (T := tabOf Try.prog NT0) S3.pr
  have lp3 := at_lt S3.pr
  have C3 := E13.at (by omega) A1
  have LC3 := ld_at (T := tabOf Try.prog NT0) C3
  have lc3 := at_lt C3
  simp only [core, zrA, zrS, zrM, zrL, zrE, reduceCtorEq, zrD, ziE, ziL, ziN, LP3, lp3, LC3, lc3]
  refine (recordsJ_x S3.ps hlen.1).mono ?_
  rintro _ h4 ⟨E4, rfl, vJ, Q4, hJ4⟩
  have n4 := E4.1
  have E14 := E13.trans (E4.mono (by omega))
  have S4 := S1.ext E14
  obtain ⟨v4, vl4, hd4, hj4, ho4, -, -, hL4⟩ := S4.ps.e
  obtain ⟨u4, he4, hu4⟩ := S4.ds.es
  have LP4 := ld_at (T := tabOf Try.prog NT0) S4.pr
  have lp4 := at_lt S4.pr
  have C4 := E14.at (by omega) A1
  have LC4 := ld_at (T := tabOf Try.prog NT0) C4
  have lc4 := at_lt C4
  have V4 := E4.at (by omega) A3
  have LV4 := ld_at (T := tabOf Try.prog NT0) V4
  have lv4 := at_lt V4
  have he4' := he4
  unfold ekC at he4'
  have LE4 := ld_at (T := tabOf Try.prog NT0) he4'
  have le4 := at_lt he4'
  have d1 := ho4.isSl
  have d2 := ho4.lenD
  have f1 := hL4.isSl
  have f2 := hL4.lenD
  have g1' := hu4.isSl
  have g2' := hu4.lenD
  have hfn : isFnT (tabOf Try.prog NT0) 80 = true := by kernel_rfl
  have ce : ((l.length : Int) != (l.length : Int)) = false := bne_self_eq_false _
  have ce2 : (base + (bs.length : Int) != base + (bs.length : Int)) = false := bne_self_eq_false _
  have ce3 : (synced != synced) = false := bne_self_eq_false _
  have ce4 : (base != base) = false := bne_self_eq_false _
  simp only [core, zrA, zrS, zrM, zrL, zrE, reduceCtorEq, zrD, ziE, ziL, ziN]
  rw [WB_regionD (0 :: 1 :: 2 :: 3 :: 4 :: 5 :: 6 :: 8 :: 9 :: 7 :: 10 :: 11 :: 12 :: 13 :: 14 :: 15 :: 16 :: 18 :: 17 :: 19 :: 20 :: 21 :: 22 :: 23 :: 24 :: 25 :: 27 :: 28 :: 29 :: 30 :: 31 :: 32 :: 33 :: 26 :: 34 :: 35 :: 36 :: 37 :: 38 :: 39 :: 40 :: 42 :: 43 :: 44 :: 45 :: 46 :: 47 :: 48 :: 41 :: 49 :: 50 :: 51 :: 52 :: 53 :: 54 :: 55 :: 57 :: 58 :: 59 :: 60 :: 56 :: 61 :: 62 :: 63 :: 64 :: 65 :: 66 :: 67 :: 68 :: 70 :: 71 :: 72 :: 73 :: 74 :: 75 :: 76 :: 69 :: 77 :: 78 :: []) 2674071055972673410881193497921042309271007242744192760670160228554381049459218276322596023774023646357432308037550636070586246774457048643257574746859980796182093512027791167353810006609616807420934155677895466462239783478273154602051919110427865347067697545713021752036493726100223541076238594974654965256361309565529580873332901556211951057178933892800384278996578401283468826497985369570035440664163393794259214361564503645423160486316834716277780049996252583753815877884530747297669836928456966777990815631930644315025631200335935898834194799442125786794764509705557544282379447217476818350626798723782233848555793058656470567780652081134119618937808641312627271353884633764698630150773430739574881616963541763789700634703774688624464992279298821748151499667230464923689139861665265783219315817370160945629397536053749219863058937367522660304113229202444008434001456200797809960196059623953001910769301625747626927132293890772400692173570059188670343647054734447025544783016254879704498556658475155183829663887919041575499006878041700525835169809349622647305799204278357048054540980446590356680150845697970649094995415833863347164793871748574931617936010343359825158545594252581342273446973394386521088514761721143705189915989421772163181461177025139573950575945775959117451847523798843248422204973523554934746447990257384657193669888413888259152990985887025512573588773951444104357917504597972858158461988425224215739777530975987313122079564141388105180961971422277304959776184349651967292036242722674589347945920088010658873786654725350540391101848213569867206909672385343313239250988261098631419313259327738823034238552650377276046607614609020999068063564080604126891974948909571480325597117847230156978912624374478205574410607743582611542978808657751145946759508592130078457616909669959780665377211292082254595414410025273098895547119021059452218123593961783656567537664 (by kernel_rfl)]
  repeat ((with_reducible refine WDM_cons ?_; simp only [dw1, List.append]; try simp only [dw2, zrA, zrM, zrR, zrO, zrE]); simp only [core, zrA, zrS, zrM, zrL, zrE, reduceCtorEq, zrD, ziE, ziL, ziN, cored, LP4, lp4, LC4, lc4, LV4, lv4, LE4, le4, r1, r3, a_eqnilf, hfn, same_one, same_sl, same_int])
  refine (count_x hj4 f1 f2).mono ?_
  rintro _ hh ⟨e0, rfl⟩
  replace e0 := e0.symm
  subst e0
  repeat ((with_reducible refine WDM_cons ?_; simp only [dw1, List.append]; try simp only [dw2, zrA, zrM, zrR, zrO, zrE]); simp only [core, zrA, zrS, zrM, zrL, zrE, reduceCtorEq, zrD, ziE, ziL, ziN, cored, LP4, lp4, LC4, lc4, LV4, lv4, LE4, le4, r1, r3, ce, same_one, same_sl, same_int])
  refine (endJ_x hj4 hd4 hks.1 d1 d2 hkb (by omega)).mono ?_
  rintro _ hh ⟨e0, rfl⟩
  replace e0 := e0.symm
  subst e0
  repeat ((with_reducible refine WDM_cons ?_; simp only [dw1, List.append]; try simp only [dw2, zrA, zrM, zrR, zrO, zrE]); simp only [core, zrA, zrS, zrM, zrL, zrE, reduceCtorEq, zrD, ziE, ziL, ziN, cored, LP4, lp4, LC4, lc4, LV4, lv4, LE4, le4, r1, r3, ce2, same_one, same_sl, same_int])
  refine (syncedJ_x hj4 hd4 hks.1).mono ?_
  rintro _ hh ⟨e0, rfl⟩
  replace e0 := e0.symm
  subst e0
  repeat ((with_reducible refine WDM_cons ?_; simp only [dw1, List.append]; try simp only [dw2, zrA, zrM, zrR, zrO, zrE]); simp only [core, zrA, zrS, zrM, zrL, zrE, reduceCtorEq, zrD, ziE, ziL, ziN, cored, LP4, lp4, LC4, lc4, LV4, lv4, LE4, le4, r1, r3, ce3, same_one, same_sl, same_int])
  refine (base_x hd4 hks.1).mono ?_
  rintro _ hh ⟨e0, rfl⟩
  replace e0 := e0.symm
  subst e0
  repeat ((with_reducible refine WDM_cons ?_; simp only [dw1, List.append]; try simp only [dw2, zrA, zrM, zrR, zrO, zrE]); simp only [core, zrA, zrS, zrM, zrL, zrE, reduceCtorEq, zrD, ziE, ziL, ziN, cored, LP4, lp4, LC4, lc4, LV4, lv4, LE4, le4, r1, r3, ce4, same_one, same_sl, same_int])
  refine (end_x hd4 hks.1 d1 d2 hkb (by omega)).mono ?_
  rintro _ hh ⟨e0, rfl⟩
  replace e0 := e0.symm
  subst e0
  repeat ((with_reducible refine WDM_cons ?_; simp only [dw1, List.append]; try simp only [dw2, zrA, zrM, zrR, zrO, zrE]); simp only [core, zrA, zrS, zrM, zrL, zrE, reduceCtorEq, zrD, ziE, ziL, ziN, cored, LP4, lp4, LC4, lc4, LV4, lv4, LE4, le4, r1, r3, same_one, same_sl, same_int])
  refine (endE_x he4 g1' g2' hkb (by omega)).mono ?_
  rintro _ hh ⟨e0, rfl⟩
  replace e0 := e0.symm
  subst e0
  repeat ((with_reducible refine WDM_cons ?_; simp only [dw1, List.append]; try simp only [dw2, zrA, zrM, zrR, zrO, zrE]); simp only [core, zrA, zrS, zrM, zrL, zrE, reduceCtorEq, zrD, ziE, ziL, ziN, cored, LP4, lp4, LC4, lc4, LV4, lv4, LE4, le4, r1, r3, ce2, same_one, same_sl, same_int])
  refine (synced_x hd4 hks.1).mono ?_
  rintro _ hh ⟨e0, rfl⟩
  replace e0 := e0.symm
  subst e0
  have hfst := full_first s.full.1
  rcases Classical.em (l = []) with hl0 | hl0
  case' inl =>
    have c0i : ((0 : Int) < (l.length : Int)) = False := by simp only [eq_iff_iff, iff_false]; rw [hl0]; simp
    have cf : (base != base + (bs.length : Int)) = false := by rw [hfst.1 hl0]; exact bne_self_eq_false _
    repeat ((with_reducible refine WDM_cons ?_; simp only [dw1, List.append]; try simp only [dw2, zrA, zrM, zrR, zrO, zrE]); simp only [core, zrA, zrS, zrM, zrL, zrE, reduceCtorEq, zrD, ziE, ziL, ziN, cored, LP4, lp4, LC4, lc4, LV4, lv4, LE4, le4, r1, r3, ce3, c0i, same_one, same_sl, same_int])
  case' inr =>
    have c0n : 0 < l.length := List.length_pos_iff.2 hl0
    have c0i : ((0 : Int) < (l.length : Int)) = True := by simp only [eq_iff_iff, iff_true]; omega
    have c0j : (0 < l.length) = True := by simp only [eq_iff_iff, iff_true]; omega
    obtain ⟨x, l2, hx⟩ := List.exists_cons_of_ne_nil hl0
    have hx1 := hfst.2 x l2 hx
    have hR4 : IsSl RRec (fun b => h1.n ≤ b) h4 vE l := (OwnR.sl hR).ext ((E3.trans (E4.mono (by omega))).mono (Nat.le_refl _)) (Nat.le_refl _)
    obtain ⟨c, hc1, hld, hld0⟩ := hR4.atE (T := tabOf Try.prog NT0) (Ext.refl _ _) RRec_z (i := 0) (x := x) (by rw [hx]; rfl)
    obtain ⟨vb, rfl, hvb, hx0⟩ := RRec_is.1 hc1
    simp only [Nat.zero_mul, Nat.add_zero] at hld hld0
    have cf : (base != x.1) = false := by rw [hx1]; exact bne_self_eq_false _
    repeat ((with_reducible refine WDM_cons ?_; simp only [dw1, List.append]; try simp only [dw2, zrA, zrM, zrR, zrO, zrE]); simp only [core, zrA, zrS, zrM, zrL, zrE, reduceCtorEq, zrD, ziE, ziL, ziN, cored, LP4, lp4, LC4, lc4, LV4, lv4, LE4, le4, r1, r3, ce3, c0i, c0j, hld, hld0, same_one, same_sl, same_int])
  all_goals
    refine (first_x hj4 hd4 hks.1).mono ?_
    rintro _ hh ⟨e0, rfl⟩
    replace e0 := e0.symm
    subst e0
    simp only [core, zrA, zrS, zrM, zrL, zrE, reduceCtorEq, zrD, ziE, ziL, ziN, cf]
    generalize htt : TM.set _ 119 _ = tt
    have hn : tt.n = 169 := by rw [← htt]; simp only [core, zrA, zrS, zrM, zrL, zrE, reduceCtorEq, zrD, ziE, ziL, ziN]
    have g1 : tt.get 1 = .ptr H.n 0 := by rw [← htt]; simp only [core, zrA, zrS, zrM, zrL, zrE, reduceCtorEq, zrD, ziE, ziL, ziN]
    have g2 : tt.get 2 = .ptr (H.n + 1) 0 := by rw [← htt]; simp only [core, zrA, zrS, zrM, zrL, zrE, reduceCtorEq, zrD, ziE, ziL, ziN]
    have g3 : tt.get 3 = .ptr h2.n 0 := by rw [← htt]; simp only [core, zrA, zrS, zrM, zrL, zrE, reduceCtorEq, zrD, ziE, ziL, ziN]
    have g7 : tt.get 7 = .ptr h4.n 0 := by rw [← htt]; simp only [core, zrA, zrS, zrM, zrL, zrE, reduceCtorEq, zrD, ziE, ziL, ziN]
    have g119 : tt.get 119 = .fn (.func 58) [] [.ptr h3.n 0] := by rw [← htt]; simp only [core, zrA, zrS, zrM, zrL, zrE, reduceCtorEq, zrD, ziE, ziL, ziN]
    clear htt
    obtain ⟨h5, hh5⟩ : ∃ h5, h5 = h4.push (.cells [.lit (.int .i64 0)] 3) := ⟨_, rfl⟩
    have E5 : Ext h4.n h4 h5 := hh5 ▸ (Ext.refl _ _).push _ (Nat.le_refl _)
    have I5 : h5.at h4.n = some (.cells [.lit (.int .i64 0)] 3) := hh5 ▸ at_push_n _ _
    have n5 : h5.n = h4.n + 1 := by rw [hh5, n_push]
    rw [← hh5]
    clear hh5
    have B4 := E14.at (by omega) B1
    refine WB_rangeW rfl (fv := .fn (.func 58) [] [.ptr h3.n 0]) (by simp only [core, zrA, zrS, zrM, zrL, zrE, reduceCtorEq, zrD, ziE, ziL, ziN, g119]) rfl fun LO hLO => ?_
    refine (records1_x (lp := h5.n + 1) Q4 hJ4 hlen.1 hlen.2.2 (fun i h => Ext h4.n h4 h ∧ h.at h4.n = some (.cells [.lit (.int .i64 (i : Nat))] 3) ∧ h.at h5.n = some .defd ∧ h.at (h5.n + 1) = some (.loop LO)) (fun _ => False) (fun i h j => j.1)
      (fun i h h' ⟨j1, j2, j3, j4⟩ e => ⟨j1.trans (e.mono j1.1), (e.2 _ (at_lt j2)).trans j2, (e.2 _ (at_lt j3)).trans j3, (e.2 _ (at_lt j4)).trans j4⟩) ?_ ?_).mono ?_
    · rintro i x h0 h vb hx ⟨j1', j2', j3', j4'⟩ e hvb
      have j1 := j1'.trans (e.mono j1'.1)
      have j2 := (e.2 _ (at_lt j2')).trans j2'
      have j3 := (e.2 _ (at_lt j3')).trans j3'
      have j4 := (e.2 _ (at_lt j4')).trans j4'
      have hlt := (List.getElem?_eq_some_iff.1 hx).1
      refine WR_round hLO j4 rfl ?_
      simp only [core, zrA, zrS, zrM, zrL, zrE, reduceCtorEq, zrD, ziE, ziL, ziN, sp_cons, sp_nil, hn]
      refine WB_beginL hLO rfl j4 ?_
      obtain ⟨hb, hhb⟩ : ∃ hb, hb = h.put (h5.n + 1) (.loop (busyL LO)) := ⟨_, rfl⟩
      have EB : Ext h4.n h4 hb := hhb ▸ j1.put _ (by omega)
      have b2 : hb.at h4.n = some (.cells [.lit (.int .i64 (i : Nat))] 3) := hhb ▸ (at_put_ne _ (by omega)).trans j2
      have b3 : hb.at h5.n = some .defd := hhb ▸ (at_put_ne _ (by omega)).trans j3
      have b4 : hb.at (h5.n + 1) = some (.loop (busyL LO)) := hhb ▸ at_put_same _ (at_lt j4)
      have nb : hb.n = h.n := hhb ▸ n_put _ _ _
      have bv : IsSl RByte (fun b => h0.n ≤ b) hb vb x.2 := hvb.lift fun b hb' _ => ⟨hhb ▸ at_put_ne _ (by have := at_lt j4'; omega), hb'⟩
      rw [← hhb]
      clear hhb
      have lb2 := at_lt b2
      have LB2 := ld_at (T := tabOf Try.prog NT0) b2
      have VB := EB.at lv4 V4
      have LVB := ld_at (T := tabOf Try.prog NT0) VB
      have lvb := at_lt VB
      have CB := EB.at lc4 C4
      have LCB := ld_at (T := tabOf Try.prog NT0) CB
      have lcb := at_lt CB
      have SB := S4.ext EB
      have LPB := ld_at (T := tabOf Try.prog NT0) SB.pr
      have lpb := at_lt SB.pr
      have hRB : IsSl RRec (fun b => h1.n ≤ b) hb vE l := ((OwnR.sl hR).ext (E3.trans (E4.mono (by omega))) (Nat.le_refl _)).ext EB (Nat.le_refl _)
      obtain ⟨c, hc1, hld, hld0⟩ := hRB.atE (T := tabOf Try.prog NT0) (Ext.refl _ _) RRec_z hx
      obtain ⟨ve, rfl, hve, hx0⟩ := RRec_is.1 hc1
      have y1 := hve.isSl
      have y2 := bv.isSl
      have cge : ((l.length : Int) ≤ (i : Int)) = False := by simp only [eq_iff_iff, iff_false]; omega
      have cx : (x.1 != x.1) = false := bne_self_eq_false _
      simp only [core, zrA, zrS, zrM, zrL, zrE, reduceCtorEq, zrD, ziE, ziL, ziN, sp_cons, sp_nil, hn, g1, g2, g3, g7, LB2, lb2, LVB, lvb, LCB, lcb, LPB, lpb, r1, r3, cge, cx, hlt, hld, hld0, aundef]
      refine (same_x bv hve).mono ?_
      rintro _ hh ⟨e0, rfl⟩
      replace e0 := e0.symm
      subst e0
      obtain ⟨vp, vlp, -, hjB, -, -, xlB, hLB⟩ := SB.ps.e
      simp only [core, zrA, zrS, zrM, zrL, zrE, reduceCtorEq, zrD, ziE, ziL, ziN, sp_cons, sp_nil, hn, g1, g2, g3, g7, LCB, lcb, LPB, lpb]
      refine (readJ_x hjB (own_sl hLB xlB fun b h => h.1) hlen.1 hlen.2.2).mono ?_
      rintro _ h6 ⟨E6, v6, rfl, o6⟩
      rw [stp_rdR s.full.1 x (List.mem_of_getElem? hx)] at o6 ⊢
      have n6 := E6.1
      have cn : ((0 : Int) != 0) = false := by decide
      simp only [core, zrA, zrS, zrM, zrL, zrE, reduceCtorEq, zrD, ziE, ziL, ziN, sp_cons, sp_nil, hn, g1, g2, g3, g7]
      refine (same_x ((VwB.ofOwn o6).sl) (bv.ext E6 (Nat.le_refl _))).mono ?_
      rintro _ hh ⟨e0, rfl⟩
      replace e0 := e0.symm
      subst e0
      simp only [core, zrA, zrS, zrM, zrL, zrE, reduceCtorEq, zrD, ziE, ziL, ziN, sp_cons, sp_nil, hn, g1, g2, g3, g7]
      refine num_x.mono ?_
      rintro _ hh ⟨e0, rfl⟩
      replace e0 := e0.symm
      subst e0
      have i6 := E6.at lb2 b2
      have li6 := at_lt i6
      have LI6 := ld_at (T := tabOf Try.prog NT0) i6
      have d6 := E6.at (at_lt b3) b3
      have l6 := E6.at (at_lt b4) b4
      have hw := wrap_succ hlt (by omega)
      simp only [core, zrA, zrS, zrM, zrL, zrE, reduceCtorEq, zrD, ziE, ziL, ziN, sp_cons, sp_nil, hn, g1, g2, g3, g7, cn, i6, li6, LI6, hw]
      refine ⟨_, (at_put_ne _ (by omega)).trans l6, true, rfl, fun _ => ⟨?_, ?_, ?_, ?_⟩, fun h => by cases h⟩
      · exact ((EB.trans (E6.mono EB.1)).put _ (Nat.le_refl _)).put _ (by omega)
      · exact (at_put_ne _ (by omega)).trans (at_put li6)
      · exact (at_put_ne _ (by omega)).trans ((at_put_ne _ (by omega)).trans d6)
      · exact (at_put_same _ (by rw [n_put]; exact at_lt l6)).trans (by rw [hLO]; rfl)
    · have up : ∀ b y, h5.at b = some y → ((h5.push .defd).push (.loop LO)).at b = some y := fun b y hy => by
        have := at_lt hy
        exact (at_push_lt _ (by rw [n_push]; omega)).trans ((at_push_lt _ this).trans hy)
      refine ⟨(E5.push _ E5.1).push _ (by rw [n_push]; have := E5.1; omega), up _ _ I5, ?_, ?_⟩
      · exact (at_push_lt _ (by rw [n_push]; omega)).trans (at_push_n _ _)
      · have := at_push_n (h5.push .defd) (.loop LO)
        rw [n_push] at this
        exact this
    · rintro _ h (⟨j1, j2, j3, j4⟩ | hf)
      · refine ⟨LO, j4, by rw [hLO]; simp, ?_⟩
        obtain ⟨hb, hhb⟩ : ∃ hb, hb = h.put (h5.n + 1) (.loop { LO with state := .exhausted }) := ⟨_, rfl⟩
        have EB : Ext h4.n h4 hb := hhb ▸ j1.put _ (by omega)
        have b2 : hb.at h4.n = some (.cells [.lit (.int .i64 (l.length : Nat))] 3) := hhb ▸ (at_put_ne _ (by omega)).trans j2
        have b3 : hb.at h5.n = some .defd := hhb ▸ (at_put_ne _ (by omega)).trans j3
        rw [← hhb]
        clear hhb
        have lb2 := at_lt b2
        have LB2 := ld_at (T := tabOf Try.prog NT0) b2
        have VB := EB.at lv4 V4
        have LVB := ld_at (T := tabOf Try.prog NT0) VB
        have lvb := at_lt VB
        have RB := EB.at (at_lt B4) B4
        have lrb := at_lt RB
        have ceq : ((l.length : Int) == (l.length : Int)) = true := beq_self_eq_true _
        rw [hLO]
        simp only [core, zrA, zrS, zrM, zrL, zrE, reduceCtorEq, zrD, ziE, ziL, ziN, Option.map_none, Option.toList_none, List.nil_append, hn, g1, g2, g3, g7, LB2, lb2, LVB, lvb, RB, lrb, r1, r3, ceq]
        have E0B : Ext H.n H hb := (E1.trans (E14.mono (by omega))).trans (EB.mono (by omega))
        have R9 : ((hb.put (H.n + 1) (.cells [.lit (.bool true)] 4)).put h5.n .gone).at (H.n + 1) = some (.cells [.lit (.bool true)] 4) := (at_put_ne _ (by omega)).trans (at_put lrb)
        refine ⟨(at_put_ne _ (by omega)).trans b3, [.lit (.bool true)], ?_, (E0B.put _ (by omega)).put _ (by omega), rfl⟩
        rw [ld_at (T := tabOf Try.prog NT0) R9]
        simp only [core, zrA, zrS, zrM, zrL, zrE, reduceCtorEq, zrD, ziE, ziL, ziN]
      · exact hf.elim
end Go.Proofs.Ytcnbamdmngaliaa.Ex
end

section

set_option linter.unusedSimpArgs false
set_option linter.unusedVariables false
set_option maxRecDepth 10000
set_option maxHeartbeats 4000000
namespace Go.Proofs.Ytcnbamdmngaliaa.Ex
open Go
/-- A step leaves what is below n0. -/
theorem Nx.below {X X' : Nat → Prop} {H h' : AH} {n0 : Nat} (N : Nx X X' H h') (hX : ∀ b, X b → n0 ≤ b) (hn : n0 ≤ H.n) : Ext n0 H h' := ⟨N.n, fun b hb => N.k b (by omega) (fun h => by have := hX b h; omega)⟩
theorem open_x {n0 p : Nat} {B : Int} {H : AH} {X Y : Nat → Prop} {d e : Nat} {size base synced limit : Int} {bs : List UInt8} {v u q1 q2 : AV} (hpr : H.at p = some (.cells [.ptr d 0, q1, .ptr e 0, q2] 40))
    (hd : H.at d = some (dkC size base v synced limit)) (ho : VwB 0 H v bs) (xv : SlF X v) (hX : X d) (hXlt : ∀ b, X b → b < H.n) (he : H.at e = some (ekC size base u synced limit)) (hu : IsSl RByte (fun b => Y b ∧ b ≠ e) H u bs) (hY : Y e) (hYlt : ∀ b, Y b → b < H.n)
    (dj : ∀ b, X b → ¬ Y b) (pX : ¬ X p) (pY : ¬ Y p) (hn0 : ∀ b, X b ∨ Y b ∨ b = p → n0 ≤ b) (ok : DOk size base bs synced limit) (hm : limit < 0) (hB : base + bs.length ≤ B) (hH : n0 ≤ H.n) :
    WC Try.prog (tabOf Try.prog NT0) S0 13 [.ptr p 0] H fun r h' => r = .lit (.bool true) ∧ Ext n0 H h' ∧ ∃ l a rest, Full base bs l a rest ∧ ∃ X' Y' j k bs' sy', St n0 p B h' X' Y' j d k e size base sy' limit rest.length bs' l := by
  refine WC_fn Try.func13 rfl rfl ?_
  have lp := at_lt hpr
  have LP := ld_at (T := tabOf Try.prog NT0) hpr
  simp only [core, zrA, zrS, zrM, zrL, zrE, reduceCtorEq, zrD, ziE, ziL, ziN, Try.ntmps13, LP, lp]
  refine (openJ_x hd ho xv hX hXlt ok hm).mono ?_
  rintro _ h1 ⟨l, a, rest, hf, X1, j, ps1, N1, rfl⟩
  have n1 := N1.n
  have hpr1 := (N1.k p lp pX).trans hpr
  have lp1 := at_lt hpr1
  have LP1 := ld_at (T := tabOf Try.prog NT0) hpr1
  simp only [core, zrA, zrS, zrM, zrL, zrE, reduceCtorEq, zrD, ziE, ziL, ziN]
  refine num_x.mono ?_
  rintro _ h2 ⟨e2, rfl⟩
  replace e2 := e2.symm
  subst e2
  have ce : ((0 : Int) != 0) = false := by decide
  simp only [core, zrA, zrS, zrM, zrL, zrE, reduceCtorEq, zrD, ziE, ziL, ziN, ce, LP1, lp1]
  have ey : ∀ b, Y b → h1.at b = H.at b := fun b hb => N1.k b (hYlt b hb) fun h => dj b h hb
  have he1 := (ey e hY).trans he
  have hu1 : IsSl RByte (fun b => Y b ∧ b ≠ e) h1 u bs := hu.lift fun b hb _ => ⟨ey b hb.1, hb⟩
  refine (openK_x he1 hu1 hY (fun b hb => Nat.lt_of_lt_of_le (hYlt b hb) n1) ok hm).mono ?_
  rintro _ h2 ⟨l', a', rest', hf', Y2, k, ds2, N2, rfl⟩
  obtain ⟨rfl, rfl, rfl⟩ := Full.uniq l l' hf hf'
  have n2 := N2.n
  have x1 : ∀ b, X1 b → ¬ Y b := fun b hb hy => (N1.x b hb).elim (fun h => dj b h hy) fun h => by have := hYlt b hy; omega
  have ps2 := ps1.lift n2 fun b hb => N2.k b (ps1.lt b hb) (x1 b hb)
  have dj2 : ∀ b, X1 b → ¬ Y2 b := fun b hb hy => (N2.x b hy).elim (fun h => x1 b hb h) fun h => by have := ps1.lt b hb; omega
  have pX1 : ¬ X1 p := fun h => (N1.x p h).elim pX fun h => by omega
  have pY2 : ¬ Y2 p := fun h => (N2.x p h).elim pY fun h => by omega
  have hpr2 := (N2.k p lp1 pY).trans hpr1
  have lp2 := at_lt hpr2
  simp only [core, zrA, zrS, zrM, zrL, zrE, reduceCtorEq, zrD, ziE, ziL, ziN, hpr2, lp2]
  obtain ⟨h3, hh3⟩ : ∃ h3, h3 = (h2.put p (.cells [.ptr d 0, .ptr j 0, .ptr e 0, q2] 40)).put p (.cells [.ptr d 0, .ptr j 0, .ptr e 0, .ptr k 0] 40) := ⟨_, rfl⟩
  have n3 : h3.n = h2.n := by rw [hh3, n_put, n_put]
  have A3 : h3.at p = some (.cells [.ptr d 0, .ptr j 0, .ptr e 0, .ptr k 0] 40) := hh3 ▸ at_put (by rw [n_put]; exact lp2)
  have K3 : ∀ b, b ≠ p → h3.at b = h2.at b := fun b hb => by rw [hh3, at_put_ne _ (Ne.symm hb), at_put_ne _ (Ne.symm hb)]
  rw [← hh3]
  have ps3 := ps2.lift (by omega) fun b hb => K3 b fun h => pX1 (h ▸ hb)
  have ds3 := ds2.lift (by omega) fun b hb => K3 b fun h => pY2 (h ▸ hb)
  have hlen := hf.1.len
  obtain ⟨y, hy, hst⟩ := hf.1.cut
  have hyl : bs.length = y.length + rest.length := by rw [hy, List.length_append]
  have htk : bs.take (a - base).toNat = y := by rw [hy]; exact List.take_left' (by omega)
  rw [htk] at ps3 ds3
  have okl := ok.l
  have oky := ok.y
  have S3 : St n0 p B h3 X1 Y2 j d k e size base (if a < synced then a else synced) limit rest.length y l := by
    refine ⟨A3, ps3, ds3, dj2, pX1, pY2, fun b hb => ?_, ⟨ok.s, ok.b, by omega, by split <;> omega, .inl hm⟩, ⟨by rw [show base + (y.length : Int) = a by omega]; exact hst, unfr_nil⟩, by omega⟩
    rcases hb with h | h | h
    · rcases N1.x b h with h | h
      · exact hn0 b (.inl h)
      · omega
    · rcases N2.x b h with h | h
      · exact hn0 b (.inr (.inl h))
      · omega
    · exact hn0 b (.inr (.inr h))
  have E03 : Ext n0 H h3 := ((N1.below (fun b hb => hn0 b (.inl hb)) hH).trans (N2.below (fun b hb => hn0 b (.inr (.inl hb))) (by omega))).trans ⟨by omega, fun b hb => K3 b fun h => by have := hn0 p (.inr (.inr rfl)); omega⟩
  obtain ⟨v3, vl3, q1', q2', q3', -⟩ := ps3.e
  have ds3k := ds3.ks
  have L3 := ld_at (T := tabOf Try.prog NT0) A3
  have l3 := at_lt A3
  unfold kjC at ds3k
  have LK := ld_at (T := tabOf Try.prog NT0) ds3k
  have lk := at_lt ds3k
  rw [WB_regionD [0, 2, 3, 4, 5, 6, 7, 8, 1, 9, 10, 11, 12, 13, 14] 26958712494791499982551115995050805373564177121064391105851905048576 (by kernel_rfl)]
  repeat ((with_reducible refine WDM_cons ?_; simp only [dw1]; try simp only [dw2, zrA, zrM, zrR, zrO, zrE]); simp only [core, zrA, zrS, zrM, zrL, zrE, reduceCtorEq, zrD, ziE, ziL, ziN, cored, L3, l3, LK, lk])
  refine (torn_x q2').mono ?_
  rintro _ h4 ⟨e4, rfl⟩
  replace e4 := e4.symm
  subst e4
  have cb : (((rest.length : Nat) : Int) == (rest.length : Int)) = true := beq_self_eq_true _
  repeat ((with_reducible refine WDM_cons ?_; simp only [dw1]; try simp only [dw2, zrA, zrM, zrR, zrO, zrE]); simp only [core, zrA, zrS, zrM, zrL, zrE, reduceCtorEq, zrD, ziE, ziL, ziN, cored, L3, l3, LK, lk, cb, same_int, same_one])
  refine (alike_x S3).mono ?_
  rintro _ h4 ⟨E4, rfl⟩
  have S4 := S3.ext E4
  have L4 := ld_at (T := tabOf Try.prog NT0) (E4.at l3 A3)
  have l4 := at_lt (E4.at l3 A3)
  have LK4 := ld_at (T := tabOf Try.prog NT0) (E4.at lk ds3k)
  have lk4 := at_lt (E4.at lk ds3k)
  repeat ((with_reducible refine WDM_cons ?_; simp only [dw1]; try simp only [dw2, zrA, zrM, zrR, zrO, zrE]); simp only [core, zrA, zrS, zrM, zrL, zrE, reduceCtorEq, zrD, ziE, ziL, ziN, cored, L4, l4, LK4, lk4, cb, same_int, same_one])
  exact ⟨E03.trans (E4.mono (by omega)), l, a, rest, hf, X1, Y2, j, k, y, _, S4⟩
end Go.Proofs.Ytcnbamdmngaliaa.Ex
end

section

set_option linter.unusedSimpArgs false
set_option linter.unusedVariables false
set_option maxRecDepth 10000
set_option maxHeartbeats 4000000
namespace Go.Proofs.Ytcnbamdmngaliaa.Ex
open Go
theorem St.mono {n0 p : Nat} {B B' : Int} {H : AH} {X Y : Nat → Prop} {j d k e : Nat} {size base synced limit torn : Int} {bs : List UInt8} {l : RecL} (s : St n0 p B H X Y j d k e size base synced limit torn bs l) (hB : B ≤ B') : St n0 p B' H X Y j d k e size base synced limit torn bs l :=
  ⟨s.pr, s.ps, s.ds, s.dj, s.pX, s.pY, s.n0, s.ok, s.full, Int.le_trans s.b hB⟩
end Go.Proofs.Ytcnbamdmngaliaa.Ex
end

section

set_option linter.unusedSimpArgs false
set_option linter.unusedVariables false
set_option maxRecDepth 10000
set_option maxHeartbeats 4000000
namespace Go.Proofs.Ytcnbamdmngaliaa.Ex
open Go
theorem TrimO.nx {X : Nat → Prop} {H h' : AH} {j d : Nat} {size base synced limit torn at_ : Int} {bs : List UInt8} {l : RecL} {sy : Int} {fr : Prop} {r : AV} (o : TrimO X H h' j d size base synced limit torn at_ bs l sy fr r) : ∃ X', Nx X X' H h' := by
  by_cases c : idxR at_ l = l.length ∧ at_ ≠ base + bs.length
  · obtain ⟨-, rfl⟩ := o.none c
    exact ⟨X, .refl⟩
  · by_cases c2 : base ≤ at_ ∧ at_ ≤ sy
    · by_cases c3 : fr
      · obtain ⟨-, X', -, h⟩ := o.froz c c2 c3
        exact ⟨X', h⟩
      · obtain ⟨-, X', -, h⟩ := o.ok c c2 c3
        exact ⟨X', h⟩
    · obtain ⟨-, X', -, h⟩ := o.arg c c2
      exact ⟨X', h⟩
theorem TrimK.nx {Y : Nat → Prop} {H h' : AH} {k e : Nat} {size base synced limit torn at_ : Int} {bs : List UInt8} {l : RecL} {sy : Int} {fr : Prop} {r : AV} (o : TrimK Y H h' k e size base synced limit torn at_ bs l sy fr r) : ∃ Y', Nx Y Y' H h' := by
  by_cases c : idxR at_ l = l.length ∧ at_ ≠ base + bs.length
  · exact ⟨Y, .ext (o.none c).2⟩
  · by_cases c2 : base ≤ at_ ∧ at_ ≤ sy
    · by_cases c3 : fr
      · obtain ⟨-, X', -, h⟩ := o.froz c c2 c3
        exact ⟨X', h⟩
      · obtain ⟨-, X', -, h⟩ := o.ok c c2 c3
        exact ⟨X', h⟩
    · obtain ⟨-, X', -, h⟩ := o.arg c c2
      exact ⟨X', h⟩
end Go.Proofs.Ytcnbamdmngaliaa.Ex
end

section

set_option linter.unusedSimpArgs false
set_option linter.unusedVariables false
set_option maxRecDepth 10000
set_option maxHeartbeats 4000000
namespace Go.Proofs.Ytcnbamdmngaliaa.Ex
open Go
theorem TrimO.val {X : Nat → Prop} {H h' : AH} {j d : Nat} {size base synced limit torn at_ : Int} {bs : List UInt8} {l : RecL} {sy : Int} {fr : Prop} {r : AV} (o : TrimO X H h' j d size base synced limit torn at_ bs l sy fr r) : ∃ v : Int, r = .lit (.int .i64 v) := by
  by_cases c : idxR at_ l = l.length ∧ at_ ≠ base + bs.length
  · exact ⟨_, (o.none c).1⟩
  · by_cases c2 : base ≤ at_ ∧ at_ ≤ sy
    · by_cases c3 : fr
      · exact ⟨_, (o.froz c c2 c3).1⟩
      · exact ⟨_, (o.ok c c2 c3).1⟩
    · exact ⟨_, (o.arg c c2).1⟩
end Go.Proofs.Ytcnbamdmngaliaa.Ex
end

section

set_option linter.unusedSimpArgs false
set_option linter.unusedVariables false
set_option maxRecDepth 10000
set_option maxHeartbeats 4000000
namespace Go.Proofs.Ytcnbamdmngaliaa.Ex
open Go
section
variable {P : Program} {T : TT} {t : TM} {h : AH} {o : Oper} {e : TypeId}
end
theorem opens_m {F : Nat → Prop} {H : AH} {v : AV} {sy : Bool} {b : List UInt8} (hv : IsSl RByte F H v b) (hF : ∀ b, F b → b < H.n) :
    WC Try.prog (tabOf Try.prog NT0) S0 3 [v, .lit (.bool sy)] H fun r h' => r = .lit (.bool true) := by
  refine WC_fn Try.func3 rfl rfl ?_
  have s1 := hv.isSl
  have s2 := hv.lenD
  by_cases c : 1048576 < b.length
  · have c1 : ((1048576 : Int) < (b.length : Int)) = True := by simp only [eq_iff_iff, iff_true]; omega
    simp only [core, zrA, zrS, zrM, zrL, zrE, reduceCtorEq, zrD, ziE, ziL, ziN, Try.ntmps3, s1, s2, c1]
    refine awake04_c ?_
    simp only [core, zrA, zrS, zrM, zrL, zrE, reduceCtorEq, zrD, ziE, ziL, ziN]
    try trivial
  have c1 : ((1048576 : Int) < (b.length : Int)) = False := by simp only [eq_iff_iff, iff_false]; omega
  have hw : IntKind.i64.wrap ((b.length : Int) + 100) = (b.length : Int) + 100 := wrap_in (by omega) (by omega)
  simp only [core, zrA, zrS, zrM, zrL, zrE, reduceCtorEq, zrD, ziE, ziL, ziN, Try.ntmps3, s1, s2, c1, hw]
  refine newD_x.mono ?_
  rintro r h1 hr
  rw [if_neg (by omega)] at hr
  obtain ⟨hh1, rfl⟩ := hr
  have E1 : Ext H.n H h1 := hh1 ▸ (Ext.refl _ _).push _ (Nat.le_refl _)
  have A1 : h1.at H.n = some (dkC (b.length + 100) 0 (.lit (.slice none 0 0)) 0 (-1)) := hh1 ▸ at_push_n _ _
  have n1 : h1.n = H.n + 1 := hh1 ▸ n_push _ _
  clear hh1
  simp only [core, zrA, zrS, zrM, zrL, zrE, reduceCtorEq, zrD, ziE, ziL, ziN, s1, s2, hw]
  refine newE_x.mono ?_
  rintro r h2 hr
  rw [if_neg (by omega)] at hr
  obtain ⟨hh2, rfl⟩ := hr
  have E2 : Ext h1.n h1 h2 := hh2 ▸ (Ext.refl _ _).push _ (Nat.le_refl _)
  have A2 : h2.at h1.n = some (ekC (b.length + 100) 0 (.lit (.slice none 0 0)) 0 (-1)) := hh2 ▸ at_push_n _ _
  have n2 : h2.n = h1.n + 1 := hh2 ▸ n_push _ _
  clear hh2
  simp only [core, zrA, zrS, zrM, zrL, zrE, reduceCtorEq, zrD, ziE, ziL, ziN]
  refine num_x.mono ?_
  rintro _ hh ⟨e0, rfl⟩
  replace e0 := e0.symm
  subst e0
  have q1 : ((0 : Int) != 0) = false := rfl
  simp only [core, zrA, zrS, zrM, zrL, zrE, reduceCtorEq, zrD, ziE, ziL, ziN, q1]
  obtain ⟨h3, hh3⟩ : ∃ h3, h3 = h2.push (.cells [] 5) := ⟨_, rfl⟩
  have E3 : Ext h2.n h2 h3 := hh3 ▸ (Ext.refl _ _).push _ (Nat.le_refl _)
  have A3 : h3.at h2.n = some (.cells [] 5) := hh3 ▸ at_push_n _ _
  have n3 : h3.n = h2.n + 1 := hh3 ▸ n_push _ _
  rw [← hh3]
  clear hh3
  have E13 : Ext H.n H h3 := (E1.trans (E2.mono (by omega))).trans (E3.mono (by omega))
  refine WOp_app ((VwB.fresh (n0 := h2.n) A3 (Nat.le_refl _)).app (hv.ext E13 (Nat.le_refl _)) (by simp only [List.length_nil]; omega) (by omega)) ?_
  rintro s4 h4 ⟨V4, -, E4⟩
  rw [List.nil_append] at V4
  have n4 := E4.1
  have D4 := E4.at (by omega) (E3.at (by omega) (E2.at (by omega) A1))
  have G4 := E4.at (by omega) (E3.at (by omega) A2)
  simp only [core, zrA, zrS, zrM, zrL, zrE, reduceCtorEq, zrD, ziE, ziL, ziN]
  refine (appendD_x (n0 := h4.n) D4 (by omega) (by omega) (by omega) .nil (by simp; omega) V4.sl (by omega) (Nat.le_refl _)).mono ?_
  rintro r h5 hr
  rw [if_neg (by simp; omega)] at hr
  obtain ⟨rfl, v5, D5, V5, C5⟩ := hr
  rw [List.nil_append] at V5
  have n5 := C5.n
  have apn : ∀ b, Apart (.lit (.slice none 0 0)) b := fun b off n cap e => by cases e
  have G5 := (C5.k h1.n (by omega) (by simp; omega) (apn _)).1.trans G4
  have k5 : ∀ b, b < H.n → h5.at b = H.at b := fun b hb => (C5.k b (by omega) (by simp; omega) (apn _)).1.trans ((E4.2 b (by omega)).trans (E13.2 b hb))
  have E05 : Ext H.n H h5 := ⟨by omega, k5⟩
  simp only [core, zrA, zrS, zrM, zrL, zrE, reduceCtorEq, zrD, ziE, ziL, ziN]
  refine (appendE_x (G := fun _ => True) G5 (by omega) (by omega) (by omega) .bytesNil (by simp; omega) (hv.ext E05 (Nat.le_refl _)) (by omega)).mono ?_
  rintro r h6 hr
  rw [if_neg (by simp; omega)] at hr
  obtain ⟨rfl, C6, v6, G6, S6⟩ := hr
  rw [List.nil_append] at S6
  have n6 := C6.n
  have D6 := (C6.k H.n (by omega) (by simp; omega)).trans D5
  have V6 : VwB h4.n h6 v5 b := V5.lift fun c off n cap e => C6.k c (V5.lt c off n cap e).2 (by have := V5.lt c off n cap e; simp; omega)
  have E06 : Ext H.n H h6 := E05.trans ⟨n6, fun c hc => C6.k c (by omega) (by simp; omega)⟩
  have v1 := V6.isSl
  have v2 := V6.lenD
  have u1 := S6.isSl
  have u2 := S6.lenD
  obtain ⟨SY, hSY⟩ : ∃ SY : Int, SY = if sy then (b.length : Int) else 0 := ⟨_, rfl⟩
  cases sy
  case' true =>
    have eSY : (if (0 : Int) ≤ -1 ∧ -1 < 0 + (b.length : Int) then 0 else 0 + (b.length : Int)) = SY := by rw [if_neg (by omega), hSY]; simp
    simp only [core, zrA, zrS, zrM, zrL, zrE, reduceCtorEq, zrD, ziE, ziL, ziN]
    refine (sync_x D6 (by omega) v1 v2 (by omega) (by omega)).mono ?_
    rintro _ g7 ⟨rfl, m7⟩
    rw [eSY] at m7
    have ng := m7.n
    simp only [core, zrA, zrS, zrM, zrL, zrE, reduceCtorEq, zrD, ziE, ziL, ziN]
    refine (syncE_x ((m7.ne h1.n (by omega)).trans G6) u1 u2 (by omega) (by omega)).mono ?_
    rintro _ h7 ⟨rfl, m8⟩
    rw [eSY] at m8
    have n7 : h7.n = h6.n := m8.n.trans ng
    have D7 := (m8.ne H.n (by omega)).trans m7.at_
    have G7 := m8.at_
    have K7 : ∀ c, c ≠ H.n → c ≠ h1.n → h7.at c = h6.at c := fun c a a2 => (m8.ne c a2).trans (m7.ne c a)
    have hSb : 0 ≤ SY ∧ SY ≤ 0 + b.length := by rw [hSY]; simp
    simp only [core, zrA, zrS, zrM, zrL, zrE, reduceCtorEq, zrD, ziE, ziL, ziN]
  case' false =>
    obtain ⟨h7, e7⟩ : ∃ h7, h7 = h6 := ⟨_, rfl⟩
    have eS0 : SY = 0 := by rw [hSY]; simp
    rw [← eS0] at D6 G6
    have n7 : h7.n = h6.n := by rw [e7]
    have D7 := D6
    have G7 := G6
    rw [← e7] at D7 G7
    have K7 : ∀ c, c ≠ H.n → c ≠ h1.n → h7.at c = h6.at c := fun c _ _ => by rw [e7]
    have hSb : 0 ≤ SY ∧ SY ≤ 0 + b.length := by rw [eS0]; omega
    rw [← e7]
    simp only [core, zrA, zrS, zrM, zrL, zrE, reduceCtorEq, zrD, ziE, ziL, ziN]
  all_goals
    obtain ⟨h8, hh8⟩ : ∃ h8, h8 = h7.push (.cells [.ptr H.n 0, .lit (.pointer none), .ptr h1.n 0, .lit (.pointer none)] 40) := ⟨_, rfl⟩
    have E8 : Ext h7.n h7 h8 := hh8 ▸ (Ext.refl _ _).push _ (Nat.le_refl _)
    have P8 : h8.at h7.n = some (.cells [.ptr H.n 0, .lit (.pointer none), .ptr h1.n 0, .lit (.pointer none)] 40) := hh8 ▸ at_push_n _ _
    have n8 : h8.n = h7.n + 1 := hh8 ▸ n_push _ _
    rw [← hh8]
    clear hh8
    have V7 : VwB h4.n h7 v5 b := V6.lift fun c off n cap e => by
      have := V6.lt c off n cap e
      exact K7 c (by omega) (by omega)
    have S7 : IsSl RByte (fun c => h5.n ≤ c) h7 v6 b := S6.lift fun c hc _ => ⟨K7 c (by omega) (by omega), hc⟩
    have E07 : Ext H.n H h7 := E06.trans ⟨by omega, fun c hc => K7 c (by omega) (by omega)⟩
    have V8 := V7.ext E8
    refine (open_x (n0 := H.n) (B := b.length) (X := fun c => (c = H.n ∨ (h4.n ≤ c ∧ c < h5.n)) ∧ c < h8.n) (Y := fun c => (c = h1.n ∨ h5.n ≤ c) ∧ c < h7.n) P8 (E8.at (by omega) D7) (V8.mono (Nat.zero_le _)) (fun c off n cap e => ?_) ⟨.inl rfl, by omega⟩ (fun c hc => hc.2) (E8.at (by omega) G7) ?_ ⟨.inl rfl, by omega⟩ (fun c hc => by have := hc.2; omega) (fun c hc hd => by have := hc.1; have := hd.1; omega) (fun h => by have := h.1; omega) (fun h => by have := h.2; omega) (fun c hc => by omega) ⟨by omega, by omega, by omega, by omega, .inl (by omega)⟩ (by omega) (by omega) (by omega)).mono ?_
    · have := V5.lt c off n cap e
      exact ⟨.inr this, by omega⟩
    · exact (S7.lift (h' := h7) fun c hc hlt => ⟨rfl, ⟨.inr hc, hlt⟩, by omega⟩).ext E8 (Nat.le_refl _)
    rintro _ h9 ⟨rfl, E9, l, a, rest, hf, X9, Y9, j9, k9, bs9, sy9, S9⟩
    simp only [core, zrA, zrS, zrM, zrL, zrE, reduceCtorEq, zrD, ziE, ziL, ziN]
    have n9 := E9.1
    obtain ⟨v9, vl9, hd9, hj9, ho9, xv9, xl9, hL9⟩ := S9.ps.e
    obtain ⟨u9, he9, hu9⟩ := S9.ds.es
    refine (open_x (n0 := H.n) (B := b.length) S9.pr hd9 ho9 xv9 S9.ps.d S9.ps.lt he9 (hu9.lift fun c hc _ => ⟨rfl, hc.1, hc.2.1⟩) S9.ds.ey S9.ds.lt S9.dj S9.pX S9.pY S9.n0 S9.ok (by omega) S9.b (by omega)).mono ?_
    rintro _ h10 ⟨rfl, E10, l', a', rest', hf', X10, Y10, j10, k10, bs10, sy10, S10⟩
    obtain ⟨-, -, rfl⟩ := Full.uniq _ _ S9.full hf'
    have LP := ld_at (T := tabOf Try.prog NT0) S10.pr
    have lp := at_lt S10.pr
    simp only [core, zrA, zrS, zrM, zrL, zrE, reduceCtorEq, zrD, ziE, ziL, ziN, LP, lp]
    obtain ⟨v10, vl10, hd10, hj10, -⟩ := S10.ps.e
    refine (torn_x hj10).mono ?_
    rintro _ hh ⟨e0, rfl⟩
    replace e0 := e0.symm
    subst e0
    have q0 : ((([] : List UInt8).length : Int) == 0) = true := rfl
    have q00 : ((0 : Int) == 0) = true := rfl
    have q000 : (((0 : Nat) : Int) == 0) = true := rfl
    simp only [core, zrA, zrS, zrM, zrL, zrE, reduceCtorEq, zrD, ziE, ziL, ziN, q0, q00, q000]
    refine awake04_c ?_
    simp only [core, zrA, zrS, zrM, zrL, zrE, reduceCtorEq, zrD, ziE, ziL, ziN]
    try trivial
end Go.Proofs.Ytcnbamdmngaliaa.Ex
end

section

set_option linter.unusedSimpArgs false
set_option linter.unusedVariables false
namespace Go.Proofs.Ytcnbamdmngaliaa.Ex
open Go Go.RowKit Go.ChangeShapes Go.WideShapes Go.ChangeAt
section
variable {H : Type} {enc : TypeId × Value → H} {W : World}
theorem opensA_u8 : OpensA enc Try.prog W 5 RByte (fun _ => True) := by
  refine ⟨by kernel_rfl, fun fuel cs x h _ => ?_⟩
  obtain ⟨n, rfl, rfl, hw⟩ := DataW.trod_int Try.underlying5 h
  simp only [Lit.wf, IntKind.min, IntKind.max, IntKind.signed, IntKind.bits] at hw
  simp at hw
  refine ⟨rfl, by simp; rfl, UInt8.ofNat n.toNat, ?_, trivial, Nat.zero_le _⟩
  show [AV.lit (Value.int .u8 n)] = [AV.lit (Value.int .u8 ((UInt8.ofNat n.toNat).toNat : Int))]
  rw [UInt8.toNat_ofNat', show ((n.toNat % 2 ^ 8 : Nat) : Int) = n by omega]
theorem opensA_bytes : OpensA enc Try.prog W 22 (RSl RByte) (fun ys => ys.length * 1 ≤ 140737488351232 ∧ ∀ y ∈ ys, True) :=
  opensA_list Try.underlying22 (by kernel_rfl) (by kernel_rfl) (by decide) opensA_u8
end
end Go.Proofs.Ytcnbamdmngaliaa.Ex
namespace Go.Proofs.Ytcnbamdmngaliaa
open Go.RowKit Go.ChangeShapes Go.WideShapes Go.ChangeAt
set_option maxRecDepth 100000 in
theorem journalOpens_walk {H : Type} {enc : TypeId × Value → H} {W : World} {base : Nat} {v0 v1 : Value} {d0 d1 : DataW H} {p0 p1 : List MemPlace}
    (k0 : Value.okWide Try.prog W .any base 22 v0) (h0 : DataW.Trod enc Try.prog W 0 (fun _ => true) true 22 v0 d0 p0)
    (k1 : Value.okWide Try.prog W .any base 4 v1) (h1 : DataW.Trod enc Try.prog W 0 (fun _ => true) true 4 v1 d1 p1)
    {ts : List TypeId} {ds : List (DataW H)} (hsz : (DataW.weightsEach Try.prog ([22, 4] ++ ts) ([d0, d1] ++ ds)).all (· ≤ reachBytes) = true) :
    Calls Try.prog 3 #[v0, v1] W fun e w' => e = .returned (.bool true) ∧ Below W.heap.size W w' := by
  obtain ⟨v, b, r0, i0, ok0⟩ := Ex.open_sl Ex.opensA_bytes Try.underlying22 k0 h0 (weights_le hsz (j := 0) rfl rfl)
  obtain ⟨sy, rfl, rfl, rfl⟩ := open_bool Try.underlying4 k1 h1
  exact Ex.law_join (Ex.rels_cons r0 (Ex.rels_cons (Ex.rel_lit rfl) Ex.rels_nil)) (Ex.opens_m (sy := sy) i0 (fun b hb => hb))
end Go.Proofs.Ytcnbamdmngaliaa
end
