/- Part 6 of the proof: Rep, Wr. -/
import Derived.Test.YtkgbeihcepociaaM5
section

set_option linter.unusedSimpArgs false
set_option linter.unusedVariables false
namespace Go.Proofs.Ytkgbeihcepociaa.Ex
open Go
/-- How values of a type lie in cells; F: the blocks that they reach. -/
structure Rep (α : Type) where
  z : Nat
  is : (Nat → Prop) → AH → List AV → α → Prop
  len : ∀ {F h c x}, is F h c x → c.length = z
  one : ∀ {F h c x}, is F h c x → ∀ v ∈ c, v.one = true
  lift : ∀ {F G : Nat → Prop} {h h' : AH} {c x}, is F h c x → (∀ b, F b → b < h.n → h'.at b = h.at b ∧ G b) → is G h' c x
def I64 (n : Int) : Prop := -9223372036854775808 ≤ n ∧ n < 9223372036854775808
def RInt : Rep Int where
  z := 1
  is _ _ c x := c = [.lit (.int .i64 x)] ∧ I64 x
  len := fun ⟨h, _⟩ => by subst h; rfl
  one := fun ⟨h, _⟩ v hv => by subst h; simp at hv; subst hv; rfl
  lift := fun h _ => h
def RBool : Rep Bool where
  z := 1
  is _ _ c x := c = [.lit (.bool x)]
  len := fun h => by subst h; rfl
  one := fun h v hv => by subst h; simp at hv; subst hv; rfl
  lift := fun h _ => h
def RPair {α β : Type} (R : Rep α) (S : Rep β) : Rep (α × β) where
  z := R.z + S.z
  is F h c x := ∃ c1 c2, c = c1 ++ c2 ∧ R.is F h c1 x.1 ∧ S.is F h c2 x.2
  len := fun ⟨c1, c2, e, h1, h2⟩ => by subst e; rw [List.length_append, R.len h1, S.len h2]
  one := fun ⟨c1, c2, e, h1, h2⟩ v hv => by
    subst e
    exact (List.mem_append.1 hv).elim (R.one h1 v) (S.one h2 v)
  lift := fun ⟨c1, c2, e, h1, h2⟩ hh => ⟨c1, c2, e, R.lift h1 hh, S.lift h2 hh⟩
def RMap {α β : Type} (f : β → α) (R : Rep α) : Rep β where
  z := R.z
  is F h c x := R.is F h c (f x)
  len := R.len
  one := R.one
  lift := R.lift
/-- A slice's length. -/
def SlN (v : AV) (n : Nat) : Prop := (v = .lit (.slice none 0 0) ∧ n = 0) ∨ ∃ b off cap, v = .sl b off n cap
def slB : AV → Nat
  | .sl b _ _ _ => b
  | _ => 0
def slO : AV → Nat
  | .sl _ o _ _ => o
  | _ => 0
/-- The blocks of a slice's cells. -/
def SlF (F : Nat → Prop) (v : AV) : Prop := ∀ b off n cap, v = .sl b off n cap → F b
theorem getR_lt {h : AH} {b : Nat} {row : List AV} (hr : getR h b = some row) : b < h.n := by
  unfold getR at hr
  cases hq : h.at b with
  | none => rw [hq] at hr; cases hr
  | some ab => exact at_lt hq
theorem Rd.slN {h : AH} {v : AV} {z : Nat} {L : List (List AV)} (hr : Rd h v z L) : SlN v L.length := by
  rcases hr.2 with ⟨rfl, rfl⟩ | ⟨b, off, cap, row, rfl, _⟩
  · exact .inl ⟨rfl, rfl⟩
  · exact .inr ⟨b, off, cap, rfl⟩
theorem SlN.one {v : AV} {n : Nat} (h : SlN v n) : v.one = true := by
  rcases h with ⟨rfl, _⟩ | ⟨b, off, cap, rfl⟩ <;> rfl
theorem SlN.lenA {v : AV} {n : Nat} (h : SlN v n) : lenA v = some n := by
  rcases h with ⟨rfl, rfl⟩ | ⟨b, off, cap, rfl⟩ <;> rfl
theorem Rd.lift {h h' : AH} {v : AV} {z : Nat} {L : List (List AV)} (hr : Rd h v z L) (hv : ∀ b off n cap, v = .sl b off n cap → b < h.n → h'.at b = h.at b) : Rd h' v z L :=
  hr.ext (n0 := 0) fun b off len cap e => by
    rcases hr.2 with ⟨rfl, _⟩ | ⟨b2, off2, cap2, row, rfl, h1, _⟩
    · cases e
    · cases e
      exact hv _ _ _ _ rfl (getR_lt h1)
/-- Elements and their cells. -/
def Els {α : Type} (R : Rep α) (F : Nat → Prop) (h : AH) (L : List (List AV)) (xs : List α) : Prop := L.length = xs.length ∧ ∀ (i : Nat) c x, L[i]? = some c → xs[i]? = some x → R.is F h c x
theorem Els.nil {α : Type} {R : Rep α} {F : Nat → Prop} {h : AH} : Els R F h [] [] := ⟨rfl, fun i c x hc => by simp at hc⟩
theorem Els.lens {α : Type} {R : Rep α} {F : Nat → Prop} {h : AH} {L : List (List AV)} {xs : List α} (he : Els R F h L xs) : ∀ c ∈ L, c.length = R.z := fun c hc => by
  obtain ⟨i, hi, rfl⟩ := List.mem_iff_getElem.1 hc
  have hx : i < xs.length := by rw [← he.1]; exact hi
  exact R.len (he.2 i _ xs[i] (List.getElem?_eq_getElem hi) (List.getElem?_eq_getElem hx))
theorem Els.ones {α : Type} {R : Rep α} {F : Nat → Prop} {h : AH} {L : List (List AV)} {xs : List α} (he : Els R F h L xs) : L.flatten.all AV.one = true := by
  simp only [List.all_eq_true, List.mem_flatten]
  rintro v ⟨c, hc, hv⟩
  obtain ⟨i, hi, rfl⟩ := List.mem_iff_getElem.1 hc
  have hx : i < xs.length := by rw [← he.1]; exact hi
  exact R.one (he.2 i _ xs[i] (List.getElem?_eq_getElem hi) (List.getElem?_eq_getElem hx)) v hv
theorem Els.lift {α : Type} {R : Rep α} {F G : Nat → Prop} {h h' : AH} {L : List (List AV)} {xs : List α} (he : Els R F h L xs) (hh : ∀ b, F b → b < h.n → h'.at b = h.at b ∧ G b) : Els R G h' L xs :=
  ⟨he.1, fun i c x hc hx => R.lift (he.2 i c x hc hx) hh⟩
theorem Els.snoc {α : Type} {R : Rep α} {F : Nat → Prop} {h : AH} {L : List (List AV)} {xs : List α} {c : List AV} {x : α} (he : Els R F h L xs) (hc : R.is F h c x) : Els R F h (L ++ [c]) (xs ++ [x]) := by
  refine ⟨by simp [he.1], fun i c' x' h1 h2 => ?_⟩
  by_cases hi : i < L.length
  · rw [List.getElem?_append_left hi] at h1
    rw [List.getElem?_append_left (by rw [← he.1]; exact hi)] at h2
    exact he.2 i _ _ h1 h2
  · rw [List.getElem?_append_right (by omega)] at h1
    rw [List.getElem?_append_right (by rw [← he.1]; omega), ← he.1] at h2
    have h0 : i - L.length = 0 := by
      cases hk : i - L.length with
      | zero => rfl
      | succ k => rw [hk] at h1; simp at h1
    rw [h0] at h1 h2
    simp at h1 h2
    subst h1 h2
    exact hc
theorem Els.append {α : Type} {R : Rep α} {F : Nat → Prop} {h : AH} {L M : List (List AV)} {xs ys : List α} (he : Els R F h L xs) (hm : Els R F h M ys) : Els R F h (L ++ M) (xs ++ ys) := by
  refine ⟨by simp [he.1, hm.1], fun i c x h1 h2 => ?_⟩
  by_cases hi : i < L.length
  · rw [List.getElem?_append_left hi] at h1
    rw [List.getElem?_append_left (by rw [← he.1]; exact hi)] at h2
    exact he.2 i _ _ h1 h2
  · rw [List.getElem?_append_right (by omega)] at h1
    rw [List.getElem?_append_right (by rw [← he.1]; omega), ← he.1] at h2
    exact hm.2 _ _ _ h1 h2
theorem Els.get {α : Type} {R : Rep α} {F : Nat → Prop} {h : AH} {L : List (List AV)} {xs : List α} (he : Els R F h L xs) {i : Nat} {x : α} (hx : xs[i]? = some x) : ∃ c, L[i]? = some c ∧ R.is F h c x := by
  have hi : i < L.length := by rw [he.1]; exact (List.getElem?_eq_some_iff.1 hx).1
  exact ⟨L[i], List.getElem?_eq_getElem hi, he.2 i _ x (List.getElem?_eq_getElem hi) hx⟩
/-- A slice's capacity is not less than its length. -/
def CapOk (z : Nat) (v : AV) : Prop := ∀ b off n cap, v = .sl b off n cap → match cap with
  | .kn k => n ≤ k
  | .un z' => z' = z
/-- A slice that is read. -/
def RSl {α : Type} (R : Rep α) : Rep (List α) where
  z := 1
  is F h c xs := ∃ v L, c = [v] ∧ Rd h v R.z L ∧ SlF F v ∧ CapOk R.z v ∧ Els R F h L xs
  len := fun ⟨v, L, e, _⟩ => by subst e; rfl
  one := fun ⟨v, L, e, h1, _⟩ u hu => by
    subst e
    simp at hu
    subst hu
    exact h1.slN.one
  lift := fun ⟨v, L, e, h1, h2, hc, h3⟩ hh => ⟨v, L, e, h1.lift fun b off n cap e' hb => (hh b (h2 b off n cap e') hb).1,
    fun b off n cap e' => by
      rcases h1.2 with ⟨hv, _⟩ | ⟨b2, off2, cap2, row, hv, h4, _⟩
      · rw [hv] at e'; cases e'
      · have e2 := e'
        rw [hv] at e'
        cases e'
        exact (hh _ (h2 _ _ _ _ e2) (getR_lt h4)).2, hc, h3.lift hh⟩
/-- Is it a slice? Its length. -/
def isSl : AV → Bool
  | .sl .. => true
  | .lit (.slice none 0 0) => true
  | _ => false
def lenD : AV → Nat
  | .sl _ _ n _ => n
  | _ => 0
section
variable {α : Type} {R : Rep α} {F : Nat → Prop} {h : AH} {v : AV} {xs : List α}
theorem SlN.isSl {n : Nat} (h : SlN v n) : isSl v = true := by rcases h with ⟨rfl, _⟩ | ⟨b, off, cap, rfl⟩ <;> rfl
theorem SlN.lenD {n : Nat} (h : SlN v n) : lenD v = n := by rcases h with ⟨rfl, rfl⟩ | ⟨b, off, cap, rfl⟩ <;> rfl
theorem SlN.of (h : Ex.isSl v = true) : ∃ n, SlN v n := by
  unfold Ex.isSl at h
  split at h
  · exact ⟨_, .inr ⟨_, _, _, rfl⟩⟩
  · exact ⟨0, .inl ⟨rfl, rfl⟩⟩
  · cases h
/-- A slice's value that reads as some list. -/
def IsSl (R : Rep α) (F : Nat → Prop) (h : AH) (v : AV) (xs : List α) : Prop := (RSl R).is F h [v] xs
theorem IsSl.mk {L : List (List AV)} (h1 : Rd h v R.z L) (h2 : SlF F v) (hc : CapOk R.z v) (h3 : Els R F h L xs) : IsSl R F h v xs := ⟨v, L, rfl, h1, h2, hc, h3⟩
theorem IsSl.out (hs : IsSl R F h v xs) : ∃ L, Rd h v R.z L ∧ SlF F v ∧ CapOk R.z v ∧ Els R F h L xs := by
  obtain ⟨v', L, e, h1, h2, hc, h3⟩ := hs
  cases e
  exact ⟨L, h1, h2, hc, h3⟩
theorem IsSl.slN (hs : IsSl R F h v xs) : SlN v xs.length := by
  obtain ⟨L, h1, _, _, h3⟩ := hs.out
  rw [← h3.1]
  exact h1.slN
theorem IsSl.one (hs : IsSl R F h v xs) : v.one = true := hs.slN.one
theorem IsSl.isSl (hs : IsSl R F h v xs) : Ex.isSl v = true := hs.slN.isSl
theorem IsSl.lenD (hs : IsSl R F h v xs) : Ex.lenD v = xs.length := hs.slN.lenD
theorem IsSl.cells (hs : IsSl R F h v xs) : v.cells = [v] := cells_one hs.one
theorem IsSl.lift {G : Nat → Prop} {h' : AH} (hs : IsSl R F h v xs) (hh : ∀ b, F b → b < h.n → h'.at b = h.at b ∧ G b) : IsSl R G h' v xs := (RSl R).lift hs hh
theorem IsSl.ext {h' : AH} {n0 : Nat} (hs : IsSl R F h v xs) (he : Ext n0 h h') (hn : h.n ≤ n0) : IsSl R F h' v xs := hs.lift fun b hb hlt => ⟨he.2 b (by omega), hb⟩
theorem IsSl.nil : IsSl R F h (.lit (.slice none 0 0)) [] := .mk (L := []) ⟨by simp, .inl ⟨rfl, rfl⟩⟩ (fun b off n cap e => by cases e) (fun b off n cap e => by cases e) .nil
/-- An element's cells, read. -/
theorem IsSl.get {T : TT} (hs : IsSl R F h v xs) {i : Nat} {x : α} (hx : xs[i]? = some x) :
    ∃ c, R.is F h c x ∧ (∀ e n j, sizeT T e = some n → 0 < n → j + n ≤ R.z → loadA T h e (slB v) (slO v + i * R.z + j) = ldL T e c j) := by
  obtain ⟨L, h1, h2, _, h3⟩ := hs.out
  obtain ⟨c, hc, hi⟩ := h3.get hx
  refine ⟨c, hi, fun e n j hn h0 hj => ?_⟩
  rcases h1.2 with ⟨_, rfl⟩ | ⟨b, off, cap, row, rfl, h4, h5⟩
  · simp at hc
  · obtain ⟨row', e1, e2, e3, e4⟩ := h1.get hc
    rw [h4] at e1
    obtain rfl := Option.some.inj e1
    have key : ∀ k, k < R.z → row[off + i * R.z + k]? = c[k]? := fun k hk => by
      rw [← e2, List.getElem?_take, if_pos hk, List.getElem?_drop]
    simp only [loadA, slB, slO, h4, ldL, hn]
    cases ha : isAggT T e with
    | none => rfl
    | some a =>
      cases a with
      | false => exact key j (by omega)
      | true =>
        simp only [cut]
        rw [if_pos (by omega), if_pos (by omega)]
        simp only [Option.map_some, Option.some.injEq, AV.agg.injEq]
        apply List.ext_getElem?
        intro k
        by_cases hk : k < n
        · rw [List.getElem?_take, if_pos hk, List.getElem?_take, if_pos hk, List.getElem?_drop, List.getElem?_drop]
          rw [Nat.add_assoc]
          exact key (j + k) (by omega)
        · rw [List.getElem?_take, if_neg hk, List.getElem?_take, if_neg hk]
/-- Part of a slice. -/
def subCap (l : Nat) : Cap → Cap
  | .kn k => .kn (k - l)
  | .un z' => .un z'
def subSl (z l r : Nat) : AV → AV
  | .sl b off _ cap => .sl b (off + l * z) (r - l) (subCap l cap)
  | v => v
theorem IsSl.sub {l r : Nat} (hs : IsSl R F h v xs) (hlr : l ≤ r) (hr : r ≤ xs.length) : IsSl R F h (subSl R.z l r v) ((xs.take r).drop l) := by
  obtain ⟨L, h1, h2, hc, h3⟩ := hs.out
  have hL : L.length = xs.length := h3.1
  have hE : Els R F h ((L.take r).drop l) ((xs.take r).drop l) := by
    refine ⟨by simp [hL], fun i c x e1 e2 => ?_⟩
    rw [List.getElem?_drop, List.getElem?_take] at e1 e2
    split at e1
    · rename_i hi
      rw [if_pos hi] at e2
      exact h3.2 _ _ _ e1 e2
    · cases e1
  rcases h1.2 with ⟨rfl, rfl⟩ | ⟨b, off, cap, row, rfl, h4, h5⟩
  · refine .mk (L := []) ⟨by simp, .inl ⟨rfl, rfl⟩⟩ (fun b off n cap e => by cases e) (fun b off n cap e => by cases e) ?_
    have : xs = [] := List.eq_nil_of_length_eq_zero (by rw [← hL]; rfl)
    subst this
    simpa using Els.nil
  · refine .mk (L := (L.take r).drop l) ⟨fun c hc => h1.1 c (List.mem_of_mem_take (List.mem_of_mem_drop hc)), .inr ⟨b, off + l * R.z, subCap l cap, row, ?_, h4, ?_⟩⟩ (fun b' off' n' cap' e => ?_) (fun b' off' n' cap' e => ?_) hE
    · show AV.sl b (off + l * R.z) (r - l) (subCap l cap) = _
      rw [show ((L.take r).drop l).length = r - l by rw [List.length_drop, List.length_take]; omega]
    · have hlen : ((L.take r).drop l).length = r - l := by rw [List.length_drop, List.length_take]; omega
      rw [hlen]
      unfold cut at h5 ⊢
      split at h5
      case isFalse => cases h5
      rename_i hfit
      have h5 := Option.some.inj h5
      have m1 : l * R.z + (r - l) * R.z = r * R.z := by rw [← Nat.add_mul]; congr 1; omega
      have m2 : r * R.z ≤ L.length * R.z := Nat.mul_le_mul_right _ (by omega)
      have hp := Nat.mul_le_mul_right R.z (show l ≤ r by omega)
      rw [if_pos (by omega)]
      congr 1
      have hflat : ∀ (M : List (List AV)) (k : Nat), (∀ c ∈ M, c.length = R.z) → (M.drop k).flatten = M.flatten.drop (k * R.z) := by
        intro M
        induction M with
        | nil => intro k _; simp
        | cons a M ih =>
          intro k hM
          cases k with
          | zero => simp
          | succ k =>
            rw [List.drop_succ_cons, ih k (fun c hc => hM c (by simp [hc])), List.flatten_cons, Nat.succ_mul, Nat.add_comm, ← List.drop_drop, List.drop_left' (hM a (by simp))]
      have hflat2 : ∀ (M : List (List AV)) (k : Nat), (∀ c ∈ M, c.length = R.z) → (M.take k).flatten = M.flatten.take (k * R.z) := by
        intro M
        induction M with
        | nil => intro k _; simp
        | cons a M ih =>
          intro k hM
          cases k with
          | zero => simp
          | succ k =>
            have ha := hM a (by simp)
            rw [List.take_succ_cons, List.flatten_cons, List.flatten_cons, ih k (fun c hc => hM c (by simp [hc])), Nat.succ_mul, List.take_append, List.take_of_length_le (l := a) (by omega), ha]
            congr 2
            omega
      rw [hflat _ _ (fun c hc => h1.1 c (List.mem_of_mem_take hc)), hflat2 _ _ h1.1, ← h5, List.take_take, List.drop_take, List.drop_drop]
      congr 1
      omega
    · show F b'
      have e' : AV.sl b (off + l * R.z) (r - l) (subCap l cap) = .sl b' off' n' cap' := e
      cases e'
      exact h2 b off _ cap rfl
    · have e' : AV.sl b (off + l * R.z) (r - l) (subCap l cap) = .sl b' off' n' cap' := e
      cases e'
      have := hc b off _ cap rfl
      cases cap with
      | kn k => show _ ≤ _; simp only at this; omega
      | un z' => exact this
/-! Slices of the run's own, that grow. -/
def OwnL (R : Rep α) (G : Nat → Prop) (n0 : Nat) (h : AH) (v : AV) (e : TypeId) (xs : List α) : Prop := ∃ L, Own n0 h v R.z e L ∧ Els R (fun b => G b ∧ Apart v b) h L xs
variable {G : Nat → Prop} {n0 : Nat} {e : TypeId}
theorem Own.slN {z : Nat} {L : List (List AV)} (h : Own n0 h v z e L) : SlN v L.length := by
  rcases h.2 with ⟨rfl, rfl⟩ | ⟨p, rfl, _⟩
  · exact .inl ⟨rfl, rfl⟩
  · exact .inr ⟨_, _, _, rfl⟩
theorem OwnL.nil : OwnL R G n0 h (.lit (.slice none 0 0)) e [] := ⟨[], ⟨by simp, .inl ⟨rfl, rfl⟩⟩, .nil⟩
theorem OwnL.slN (ho : OwnL R G n0 h v e xs) : SlN v xs.length := by
  obtain ⟨L, h1, h2⟩ := ho
  rw [← h2.1]
  exact h1.slN
theorem OwnL.one (ho : OwnL R G n0 h v e xs) : v.one = true := ho.slN.one
theorem OwnL.isSl (ho : OwnL R G n0 h v e xs) : Ex.isSl v = true := ho.slN.isSl
theorem OwnL.lenD (ho : OwnL R G n0 h v e xs) : Ex.lenD v = xs.length := ho.slN.lenD
theorem OwnL.cells (ho : OwnL R G n0 h v e xs) : v.cells = [v] := cells_one ho.one
theorem OwnL.lift {h' : AH} (ho : OwnL R G n0 h v e xs) (hv : ∀ b off n cap, v = .sl b off n cap → h'.at b = h.at b) (hh : ∀ b, G b → b < h.n → Apart v b → h'.at b = h.at b) : OwnL R G n0 h' v e xs := by
  obtain ⟨L, h1, h2⟩ := ho
  refine ⟨L, ⟨h1.1, ?_⟩, h2.lift fun b hb hlt => ⟨hh b hb.1 hlt hb.2, hb⟩⟩
  rcases h1.2 with hh | ⟨p, rfl, hp, hat⟩
  · exact .inl hh
  · exact .inr ⟨p, rfl, hp, (hv _ _ _ _ rfl).trans hat⟩
theorem OwnL.ext {h' : AH} {m : Nat} (ho : OwnL R G n0 h v e xs) (he : Ext m h h') (hm : h.n ≤ m) : OwnL R G n0 h' v e xs :=
  ho.lift (fun b off n cap ev => by
    obtain ⟨L, h1, h2⟩ := ho
    rcases h1.2 with ⟨hh, _⟩ | ⟨p, hh, hp, hat⟩
    · rw [hh] at ev; cases ev
    · rw [hh] at ev
      cases ev
      exact he.2 _ (by have := at_lt hat; omega)) (fun b _ hlt _ => he.2 b (by omega))
theorem OwnL.apart (ho : OwnL R G n0 h v e xs) {b : Nat} (hb : h.n ≤ b) : Apart v b := fun off n cap ev => by
  obtain ⟨L, h1, h2⟩ := ho
  rcases h1.2 with ⟨hh, _⟩ | ⟨p, hh, hp, hat⟩
  · rw [hh] at ev; cases ev
  · rw [hh] at ev
    cases ev
    have := at_lt hat
    omega
/-- It is read, and goes back. -/
theorem OwnL.toSl (ho : OwnL R G n0 h v e xs) (hG : ∀ b, G b → F b) (hn : ∀ b, n0 ≤ b → F b) : IsSl R F h v xs := by
  obtain ⟨L, h1, h2⟩ := ho
  refine .mk h1.rd (fun b off n cap ev => ?_) (fun b off n cap ev => ?_) (h2.lift fun b hb _ => ⟨rfl, hG b hb.1⟩)
  · rcases h1.2 with ⟨hh, _⟩ | ⟨p, hh, hp, hat⟩
    · rw [hh] at ev; cases ev
    · rw [hh] at ev; cases ev; exact hn _ hp
  · rcases h1.2 with ⟨hh, _⟩ | ⟨p, hh, hp, hat⟩
    · rw [hh] at ev; cases ev
    · rw [hh] at ev; cases ev; rfl
/-- Something is appended to it. -/
theorem OwnL.append {T : TT} {t tx : TypeId} {by' : Nat} {zv x : AV} {M : List (List AV)} {ys : List α} (ho : OwnL R G n0 h v e xs)
    (hu : und T t = some (.slice e)) (htx : und T tx = some (.slice e)) (hz : sizeT T e = some R.z) (hzv : zeroT T e = some zv) (hb : bytesT T e = some by')
    (hzl : zv.cells.length = R.z) (h0 : 0 < R.z) (h200 : R.z ≤ 200) (hx : srcA h R.z x = some M.flatten) (hxl : lenA x = some M.length) (hM : Els R (fun b => G b ∧ Apart v b) h M ys)
    (hn : xs.length + ys.length ≤ 4611686018427387904) (hby : (xs.length + ys.length) * by' ≤ 140737488355328) (hn0 : n0 ≤ h.n) :
    ∃ s' h', appendA T h t tx v x = some (s', h') ∧ OwnL R G n0 h' s' e (xs ++ ys) ∧ Ext n0 h h' ∧ ∀ b, b < h.n → Apart v b → h'.at b = h.at b ∧ Apart s' b := by
  obtain ⟨L, h1, h2⟩ := ho
  obtain ⟨s', h', a1, a2, a3, a4⟩ := append_own hu htx hz hzv hb hzl h0 h200 h1 hx hxl hM.lens hM.ones (by rw [h2.1, hM.1]; exact hn) (by rw [h2.1, hM.1]; exact hby) hn0
  exact ⟨s', h', a1, ⟨_, a2, (h2.append hM).lift fun b hb hlt => ⟨(a4 b hlt hb.2).1, hb.1, (a4 b hlt hb.2).2⟩⟩, a3, a4⟩
/-- One element, laid in a new block ahead. -/
theorem OwnL.snoc {T : TT} {t tx : TypeId} {by' p : Nat} {zv : AV} {c : List AV} {y : α} {cap : Cap} {e' : TypeId} (ho : OwnL R G n0 h v e xs)
    (hu : und T t = some (.slice e)) (htx : und T tx = some (.slice e)) (hz : sizeT T e = some R.z) (hzv : zeroT T e = some zv) (hb : bytesT T e = some by')
    (hzl : zv.cells.length = R.z) (h0 : 0 < R.z) (h200 : R.z ≤ 200) (hp : h.at p = some (.cells c e')) (hc : R.is (fun b => G b ∧ Apart v b) h c y)
    (hn : xs.length + 1 ≤ 4611686018427387904) (hby : (xs.length + 1) * by' ≤ 140737488355328) (hn0 : n0 ≤ h.n) :
    ∃ s' h', appendA T h t tx v (.sl p 0 1 cap) = some (s', h') ∧ OwnL R G n0 h' s' e (xs ++ [y]) ∧ Ext n0 h h' ∧ ∀ b, b < h.n → Apart v b → h'.at b = h.at b ∧ Apart s' b := by
  refine ho.append hu htx hz hzv hb hzl h0 h200 (M := [c]) (ys := [y]) ?_ rfl (Els.nil.snoc hc) hn hby hn0
  have hg : getR h p = some c := by unfold getR; rw [hp]
  simp only [srcA, hg, cut]
  rw [if_pos (by rw [R.len hc]; omega)]
  simp [R.len hc ▸ List.take_length]
end
end Go.Proofs.Ytkgbeihcepociaa.Ex
end

section

set_option linter.unusedSimpArgs false
set_option linter.unusedVariables false
namespace Go.Proofs.Ytkgbeihcepociaa.Ex
open Go
section
variable {P : Program} {T : TT} {S : Sums} {t : TM} {h : AH} {d : Option Tmp} {ty : TypeId} {ps : String} {af : Array Edge} {g : Option (Nat × Bool)} {N : NT}
def isSlT (T : TT) (t : TypeId) : Bool := match und T t with
  | some (.slice _) => true
  | _ => false
/-- A slice's element: its cells. -/
def szE (T : TT) (t : TypeId) : Nat := match und T t with
  | some (.slice e) => (sizeT T e).getD 0
  | _ => 0
def isPtr : AV → Bool
  | .ptr _ _ => true
  | _ => false
theorem und_tab {t : TypeId} {dd : TypeDesc} (hu : und (tabOf P N) t = some dd) : (P.underlying t).getD .invalid = dd := by
  unfold und tabOf at hu
  cases hq : N.has t with
  | false => rw [hq] at hu; cases hu
  | true => rw [hq] at hu; simpa [tiOf] using hu
theorem und_tab_sl {t e : TypeId} (hu : und (tabOf P N) t = some (.slice e)) : P.underlying t = some (.slice e) := by
  have := und_tab hu
  cases hq : P.underlying t with
  | none => rw [hq] at this; cases this
  | some x => rw [hq] at this; exact congrArg some this
theorem isSlT_out {t : TypeId} (hT : isSlT T t = true) : ∃ e, und T t = some (.slice e) := by
  unfold isSlT at hT
  split at hT
  · rename_i e hu; exact ⟨e, hu⟩
  · cases hT
theorem pur_prog {α : Type} {f : Program → Sem α} : pur P (program >>= f) = pur P (f P) := rfl
theorem a_len {i ty' : Nat} (hs : isSl (t.get i) = true) (hT : isSlT (tabOf P N) ty' = true) :
    aop P (tabOf P N) ⟨d, .call ⟨.builtin .len, #[.tmp i], #[ty']⟩, ty, ps, af, g⟩ t h = some (.val (.lit (.int .i64 (lenD (t.get i)))), h) := by
  obtain ⟨e, hu⟩ := isSlT_out hT
  have hP := und_tab_sl hu
  rw [a_call]
  obtain ⟨n, ⟨hv, _⟩ | ⟨b, off, cap, hv⟩⟩ := SlN.of hs
  · have he : litEnv t (.tmp i) = .slice none 0 0 := by simp [litEnv, ev_tmp, hv, toVal]
    have hl : litOp P ⟨d, .call ⟨.builtin .len, #[.tmp i], #[ty']⟩, ty, ps, af, g⟩ t = some (.val (.lit (.int .i64 0))) := by
      simp only [litOp, notSelect, Op.operands, Call.operands, execOp, resolve]
      simp [litAll, ev_tmp, hv, toVal, invoke, builtin, Builtin.len_, he, underlying]
      rw [pur_prog, hP]
      rfl
    simp only [aCall, aBuiltin, evals, ev_tmp, hv, orLit, hl, lenD]
    rfl
  · simp only [aCall, aBuiltin, evals, ev_tmp, hv, hu, lenD]
/-- An element's place. -/
def iaM (h : AH) (v : AV) (z : Nat) : Option Nat → AR
  | some k => if k < lenD v then some (.val (.ptr (slB v) (slO v + k * z)), h) else none
  | none => none
theorem iaM_some {v : AV} {z k : Nat} : iaM h v z (some k) = if k < lenD v then some (.val (.ptr (slB v) (slO v + k * z)), h) else none := rfl
theorem szE_eq {e el z : Nat} (hu : und T e = some (.slice el)) (hz : sizeT T el = some z) : szE T e = z := by unfold szE; rw [hu]; simp [hz]
def szOk (T : TT) (t : TypeId) : Bool := match und T t with
  | some (.slice e) => (sizeT T e).isSome && Nat.blt 0 ((sizeT T e).getD 0)
  | _ => false
theorem szOk_out {e : TypeId} (hT : szOk T e = true) : ∃ el z, und T e = some (.slice el) ∧ sizeT T el = some z ∧ szE T e = z ∧ 0 < z := by
  unfold szOk at hT
  split at hT
  case h_2 => cases hT
  rename_i el hu
  simp only [Bool.and_eq_true] at hT
  obtain ⟨z, hz⟩ := Option.isSome_iff_exists.1 hT.1
  refine ⟨el, z, hu, hz, szE_eq hu hz, ?_⟩
  have := Nat.blt_eq.mp hT.2
  rw [hz] at this
  exact this
theorem a_ia {e i : Nat} {y : Operand} (hs : isSl (t.get i) = true) (hT : szOk T e = true) : aop P T ⟨d, .indexAddr e (.tmp i) y, ty, ps, af, g⟩ t h = iaM h (t.get i) (szE T e) ((evalA t y).bind natA) := by
  rw [a_indexAddr]
  obtain ⟨el, z, hu, hz, hzz, _⟩ := szOk_out hT
  rw [hzz]
  unfold aIndexAddr
  obtain ⟨n, ⟨hv, _⟩ | ⟨b, off, cap, hv⟩⟩ := SlN.of hs
  · rw [hu, ev_tmp, hv]
    cases (evalA t y).bind natA <;> simp [iaM, lenD]
  · rw [hu, ev_tmp, hv]
    cases (evalA t y).bind natA with
    | none => simp [iaM]
    | some k =>
      by_cases hk : k < n
      · simp [iaM, lenD, slB, slO, hz, hk]
      · simp [iaM, lenD, slB, slO, hz, hk]
theorem a_iap {e i : Nat} {y : Operand} (hs : isPtr (t.get i) = true) : aop P T ⟨d, .indexAddr e (.tmp i) y, ty, ps, af, g⟩ t h = aIndexAddr T t h e (.tmp i) y := rfl
/-- Part of a slice. -/
def aSlR (P : Program) (T : TT) (o : Oper) (t : TM) (h : AH) (e : TypeId) (x : Operand) (lo hi mx : Option Operand) : AR := aSlice P T o t h e x lo hi mx
def slM (h : AH) (v : AV) (z : Nat) (lo hi : Int) (r : AR) : AR := if 0 ≤ lo ∧ lo ≤ hi ∧ hi ≤ (lenD v : Int) then some (.val (subSl z lo.toNat hi.toNat v), h) else r
theorem sl_none {o : Oper} {i : Nat} (hx : .tmp i ∈ o.op.operands) {b off n : Nat} {cap : Cap} (hv : t.get i = .sl b off n cap) : litOp P o t = none := by
  have key : ∀ l : List Operand, Operand.tmp i ∈ l → litAll t l = false := by
    intro l
    induction l with
    | nil => intro h; cases h
    | cons a r ih =>
      intro h
      cases h with
      | head => simp [litAll, ev_tmp, hv, toVal]
      | tail _ h =>
        have := ih h
        simp only [litAll]
        split
        · rw [this]; simp
        · rfl
  have := key o.op.operands.toList (by simpa using hx)
  unfold litOp
  rw [this]
  simp
theorem capGe_ok {z n k : Nat} {cap : Cap} (hk : k ≤ n) (hc : match cap with | .kn k => n ≤ k | .un z' => z' = z) : capGe cap n k = some true := by
  cases cap with
  | kn m => simp only at hc; simp [capGe]; omega
  | un z' => simp [capGe, hk]
theorem sl1_ok {e : TypeId} {v : AV} {l r : Nat} {lo hi : Option Nat} (hT : szOk T e = true) (hc : CapOk (szE T e) v) {b off n : Nat} {cap : Cap} (hv : v = .sl b off n cap) (hl : lo.getD 0 = l) (hr : hi.getD n = r) (hlr : l ≤ r) (hrn : r ≤ n) :
    aSlice1 T h e v lo hi none = some (.val (subSl (szE T e) l r v), h) := by
  obtain ⟨el, z, hu, hz, hzz, _⟩ := szOk_out hT
  subst hv
  have hcap := hc b off n cap rfl
  rw [hzz] at hcap ⊢
  unfold aSlice1
  rw [hu]
  simp only [hz]
  have hb : boundsA n cap lo hi none = some (l, r, subCap l cap) := by
    unfold boundsA
    simp only [hl, hr, capGe_ok hrn hcap]
    rw [if_pos (by simp [hlr])]
    cases cap <;> rfl
  rw [hb]
  simp only
  have hf : capFits z (subCap l cap) = true := by
    cases cap with
    | kn k => rfl
    | un z' => simp only at hcap; subst hcap; simp [capFits, subCap]
  rw [hf]
  rfl
theorem nil_slice {e : TypeId} {lo hi : Option Value} (hP : P.underlying e = some (.slice ty)) (hl : lo = none ∨ lo = some (.int .i64 0)) (hh : hi = none ∨ hi = some (.int .i64 0)) (hi' : (P.info? ty).isSome = true) :
    pur P (do let x ← Instr.sliceAt e (.slice none 0 0) lo hi none; pure (Next.value x)) = some (.ok (.value (.slice none 0 0))) := by
  obtain ⟨ii, hii⟩ := Option.isSome_iff_exists.1 hi'
  have u1 : ∀ {α β : Type} (f : TypeDesc → Sem α) (g : α → Sem β), pur P ((underlying e >>= f) >>= g) = pur P (f (.slice ty) >>= g) := fun f g => by
    show pur P (((match P.underlying e with | some d => pure d | none => stuck "no such type") >>= f) >>= g) = _
    rw [hP]
    rfl
  have u2 : ∀ {α β : Type} (f : Nat → Sem α) (g : α → Sem β), pur P ((sizeOf ty >>= f) >>= g) = pur P (f ii.size >>= g) := fun f g => by
    show pur P (((((match P.info? ty with | some i => pure i | none => stuck "no such type") >>= fun i => pure i.size)) >>= f) >>= g) = _
    rw [hii]
    rfl
  unfold Instr.sliceAt
  rw [u1]
  show pur P (Instr.slice e (.slice none 0 0) lo hi none >>= _) = _
  unfold Instr.slice
  rw [u1]
  rcases hl with rfl | rfl <;> rcases hh with rfl | rfl <;> exact u2 _ _
theorem nilSl_lit {o : Oper} {e el i : Nat} {lo hi : Option Operand} (hu : und (tabOf P N) e = some (.slice el)) {z : Nat} (hel : sizeT (tabOf P N) el = some z) (h0 : 0 < z) (hv : t.get i = .lit (.slice none 0 0))
    (hl : lo = none ∨ ∃ x, lo = some x ∧ evalA t x = some (.lit (.int .i64 0))) (hh : hi = none ∨ ∃ x, hi = some x ∧ evalA t x = some (.lit (.int .i64 0))) (ho : o.op = .slice e (.tmp i) lo hi none) :
    litOp P o t = some (.val (.lit (.slice none 0 0))) := by
  obtain ⟨d, op, ty, ps, af, g⟩ := o
  simp only at ho
  subst ho
  have hinfo : (P.info? el).isSome = true := by
    cases hq : P.info? el with
    | some ii => rfl
    | none =>
      simp only [sizeT, Option.map_eq_some_iff, tabOf] at hel
      obtain ⟨ti, h1, h2⟩ := hel
      cases hN : N.has el with
      | false => rw [hN] at h1; cases h1
      | true =>
        rw [hN] at h1
        simp only [cond_true, Option.some.injEq] at h1
        rw [← h1] at h2
        simp only [tiOf, hq] at h2
        simp at h2
        omega
  have e0 : litEnv t (.tmp i) = .slice none 0 0 := by simp [litEnv, ev_tmp, hv, toVal]
  have key := nil_slice (P := P) (lo := lo.map (litEnv t)) (hi := hi.map (litEnv t)) (und_tab_sl hu) (by
    rcases hl with rfl | ⟨x, rfl, hx⟩
    · exact .inl rfl
    · exact .inr (by simp [litEnv, hx, toVal])) (by
    rcases hh with rfl | ⟨x, rfl, hx⟩
    · exact .inl rfl
    · exact .inr (by simp [litEnv, hx, toVal])) hinfo
  unfold litOp
  rw [if_pos]
  · show ofPR (pur P (do let x ← Instr.sliceAt e (litEnv t (.tmp i)) (lo.map (litEnv t)) (hi.map (litEnv t)) none; pure (Next.value x))) = _
    rw [e0, key]
    rfl
  · rcases hl with rfl | ⟨x, rfl, hx⟩ <;> rcases hh with rfl | ⟨y, rfl, hy⟩ <;> simp [notSelect, Op.operands, litAll, ev_tmp, hv, toVal, *]
theorem a_sl_hi {e i : Nat} {hi : Operand} (hs : isSl (t.get i) = true) (hT : szOk (tabOf P N) e = true) (hc : CapOk (szE (tabOf P N) e) (t.get i)) :
    aop P (tabOf P N) ⟨d, .slice e (.tmp i) none (some hi) none, ty, ps, af, g⟩ t h = (match evalA t hi with
      | some (.lit (.int .i64 n)) => slM h (t.get i) (szE (tabOf P N) e) 0 n (aSlR P (tabOf P N) ⟨d, .slice e (.tmp i) none (some hi) none, ty, ps, af, g⟩ t h e (.tmp i) none (some hi) none)
      | _ => aSlR P (tabOf P N) ⟨d, .slice e (.tmp i) none (some hi) none, ty, ps, af, g⟩ t h e (.tmp i) none (some hi) none) := by
  have h0 : aop P (tabOf P N) ⟨d, .slice e (.tmp i) none (some hi) none, ty, ps, af, g⟩ t h = aSlice P (tabOf P N) ⟨d, .slice e (.tmp i) none (some hi) none, ty, ps, af, g⟩ t h e (.tmp i) none (some hi) none := rfl
  rw [h0]
  split
  · rename_i n hn
    unfold slM
    split
    · rename_i hb
      obtain ⟨m, ⟨hv, hm⟩ | ⟨b, off, cap, hv⟩⟩ := SlN.of hs
      · obtain ⟨el, z, hu, hz, hzz, h0⟩ := szOk_out hT
        have hl : (lenD (t.get i)) = 0 := by rw [hv]; rfl
        obtain rfl : n = 0 := by omega
        unfold aSlice orLit
        rw [nilSl_lit hu hz h0 hv (.inl rfl) (.inr ⟨_, rfl, hn⟩) rfl, hv]
        rfl
      · unfold aSlice orLit
        rw [sl_none (i := i) (by simp [Op.operands]) hv]
        simp only [ev_tmp, optNat, hn, natA_int, if_pos hb.2.1, Option.map_some]
        have hl : (lenD (t.get i)) = m := by rw [hv]; rfl
        exact sl1_ok hT hc hv rfl rfl (by simp) (by simp; omega)
    · rfl
  · rfl
theorem a_sl_lo {e i : Nat} {lo : Operand} (hs : isSl (t.get i) = true) (hT : szOk (tabOf P N) e = true) (hc : CapOk (szE (tabOf P N) e) (t.get i)) :
    aop P (tabOf P N) ⟨d, .slice e (.tmp i) (some lo) none none, ty, ps, af, g⟩ t h = (match evalA t lo with
      | some (.lit (.int .i64 n)) => slM h (t.get i) (szE (tabOf P N) e) n (lenD (t.get i)) (aSlR P (tabOf P N) ⟨d, .slice e (.tmp i) (some lo) none none, ty, ps, af, g⟩ t h e (.tmp i) (some lo) none none)
      | _ => aSlR P (tabOf P N) ⟨d, .slice e (.tmp i) (some lo) none none, ty, ps, af, g⟩ t h e (.tmp i) (some lo) none none) := by
  have h0 : aop P (tabOf P N) ⟨d, .slice e (.tmp i) (some lo) none none, ty, ps, af, g⟩ t h = aSlice P (tabOf P N) ⟨d, .slice e (.tmp i) (some lo) none none, ty, ps, af, g⟩ t h e (.tmp i) (some lo) none none := rfl
  rw [h0]
  split
  · rename_i n hn
    unfold slM
    split
    · rename_i hb
      obtain ⟨m, ⟨hv, hm⟩ | ⟨b, off, cap, hv⟩⟩ := SlN.of hs
      · obtain ⟨el, z, hu, hz, hzz, h0⟩ := szOk_out hT
        have hl : (lenD (t.get i)) = 0 := by rw [hv]; rfl
        obtain rfl : n = 0 := by omega
        unfold aSlice orLit
        rw [nilSl_lit hu hz h0 hv (.inr ⟨_, rfl, hn⟩) (.inl rfl) rfl, hv]
        rfl
      · unfold aSlice orLit
        rw [sl_none (i := i) (by simp [Op.operands]) hv]
        simp only [ev_tmp, optNat, hn, natA_int, if_pos hb.1, Option.map_some]
        have hl : (lenD (t.get i)) = m := by rw [hv]; rfl
        rw [Int.toNat_natCast]
        exact sl1_ok hT hc hv rfl (by rw [hl]; rfl) (by simp; omega) (by omega)
    · rfl
  · rfl
theorem a_sl_lohi {e i : Nat} {lo hi : Operand} (hs : isSl (t.get i) = true) (hT : szOk (tabOf P N) e = true) (hc : CapOk (szE (tabOf P N) e) (t.get i)) :
    aop P (tabOf P N) ⟨d, .slice e (.tmp i) (some lo) (some hi) none, ty, ps, af, g⟩ t h = (match evalA t lo, evalA t hi with
      | some (.lit (.int .i64 n)), some (.lit (.int .i64 m)) => slM h (t.get i) (szE (tabOf P N) e) n m (aSlR P (tabOf P N) ⟨d, .slice e (.tmp i) (some lo) (some hi) none, ty, ps, af, g⟩ t h e (.tmp i) (some lo) (some hi) none)
      | _, _ => aSlR P (tabOf P N) ⟨d, .slice e (.tmp i) (some lo) (some hi) none, ty, ps, af, g⟩ t h e (.tmp i) (some lo) (some hi) none) := by
  have h0 : aop P (tabOf P N) ⟨d, .slice e (.tmp i) (some lo) (some hi) none, ty, ps, af, g⟩ t h = aSlice P (tabOf P N) ⟨d, .slice e (.tmp i) (some lo) (some hi) none, ty, ps, af, g⟩ t h e (.tmp i) (some lo) (some hi) none := rfl
  rw [h0]
  split
  · rename_i n k hn hk
    unfold slM
    split
    · rename_i hb
      obtain ⟨m, ⟨hv, hm⟩ | ⟨b, off, cap, hv⟩⟩ := SlN.of hs
      · obtain ⟨el, z, hu, hz, hzz, h0⟩ := szOk_out hT
        have hl : (lenD (t.get i)) = 0 := by rw [hv]; rfl
        obtain rfl : n = 0 := by omega
        obtain rfl : k = 0 := by omega
        unfold aSlice orLit
        rw [nilSl_lit hu hz h0 hv (.inr ⟨_, rfl, hn⟩) (.inr ⟨_, rfl, hk⟩) rfl, hv]
        rfl
      · unfold aSlice orLit
        rw [sl_none (i := i) (by simp [Op.operands]) hv]
        have hk0 : 0 ≤ k := by omega
        simp only [ev_tmp, optNat, hn, hk, natA_int, if_pos hb.1, if_pos hk0, Option.map_some]
        have hl : (lenD (t.get i)) = m := by rw [hv]; rfl
        exact sl1_ok hT hc hv rfl rfl (by simp; omega) (by simp; omega)
    · rfl
  · rfl
/-- Held against nil. -/
def isNil : AV → Bool
  | .lit (.slice none 0 0) => true
  | _ => false
/-- A slice held against nil. -/
theorem a_eqnil {e f : TypeId} {i : Nat} (hs : isSl (t.get i) = true) (hT : isSlT T e = true) (hN : pur P (binOp .eql e (.slice none 0 0) (.slice none 0 0)) = some (.ok (.bool true))) :
    aop P T ⟨d, .binOp .eql e (.tmp i) (.const (.slice none 0 0)) f, ty, ps, af, g⟩ t h = some (.val (.lit (.bool (isNil (t.get i)))), h) := by
  obtain ⟨el, hu⟩ := isSlT_out hT
  rw [a_bin]
  obtain ⟨n, ⟨hv, _⟩ | ⟨b, off, cap, hv⟩⟩ := SlN.of hs
  · unfold aBin
    rw [ev_tmp, hv, ev_nils]
    simp only [hN]
    rfl
  · have := binR_nil_eql (P := P) (T := T) (t := t) (h := h) (d := d) (ty := ty) (ps := ps) (af := af) (g := g) (e := e) (f := f) (i := i)
    rw [hu, hv] at this
    unfold aBinR at this
    rw [this, hv]
    rfl
theorem a_nenil {e f : TypeId} {i : Nat} (hs : isSl (t.get i) = true) (hT : isSlT T e = true) (hN : pur P (binOp .neq e (.slice none 0 0) (.slice none 0 0)) = some (.ok (.bool false))) :
    aop P T ⟨d, .binOp .neq e (.tmp i) (.const (.slice none 0 0)) f, ty, ps, af, g⟩ t h = some (.val (.lit (.bool (!isNil (t.get i)))), h) := by
  obtain ⟨el, hu⟩ := isSlT_out hT
  rw [a_bin]
  obtain ⟨n, ⟨hv, _⟩ | ⟨b, off, cap, hv⟩⟩ := SlN.of hs
  · unfold aBin
    rw [ev_tmp, hv, ev_nils]
    simp only [hN]
    rfl
  · have := binR_nil_neq (P := P) (T := T) (t := t) (h := h) (d := d) (ty := ty) (ps := ps) (af := af) (g := g) (e := e) (f := f) (i := i)
    rw [hu, hv] at this
    unfold aBinR at this
    rw [this, hv]
    rfl
theorem oneOf_0 : oneOf [] = .tup [] := rfl
theorem oneOf_1 {a : AV} : oneOf [a] = a := rfl
theorem oneOf_2 {a b : AV} : oneOf [a, b] = .tup [a, b] := rfl
theorem oneOf_3 {a b c : AV} : oneOf [a, b, c] = .tup [a, b, c] := rfl
/-! Numbers. -/
theorem nn0 (n : Nat) : ((0 : Int) ≤ (n : Int)) = True := by simp
theorem und_out {t : TypeId} {dd : TypeDesc} (hu : und (tabOf P N) t = some dd) (hne : dd ≠ .invalid) : P.underlying t = some dd := by
  have := und_tab hu
  cases hq : P.underlying t with
  | none => rw [hq] at this; exact absurd this.symm hne
  | some x => rw [hq] at this; exact congrArg some this
def boolM (h : AH) (a b : Bool) (r : AR) : BinOp → Option TypeDesc → AR
  | .eql, some .bool => some (.val (.lit (.bool (a == b))), h)
  | .neq, some .bool => some (.val (.lit (.bool (!(a == b)))), h)
  | _, _ => r
theorem boolM_eql {a b : Bool} {r : AR} : boolM h a b r .eql (some .bool) = some (.val (.lit (.bool (a == b))), h) := rfl
theorem boolM_neq {a b : Bool} {r : AR} : boolM h a b r .neq (some .bool) = some (.val (.lit (.bool (!(a == b)))), h) := rfl
theorem pur_beq {e : TypeId} {a b : Bool} (hP : P.underlying e = some .bool) : pur P (binOp .eql e (.bool a) (.bool b)) = some (.ok (.bool (a == b))) := by
  show pur P (((match P.underlying e with | some d => pure d | none => stuck "no such type") >>= _) >>= _) = _
  rw [hP]
  rfl
theorem pur_bne {e : TypeId} {a b : Bool} (hP : P.underlying e = some .bool) : pur P (binOp .neq e (.bool a) (.bool b)) = some (.ok (.bool (!(a == b)))) := by
  show pur P (((match P.underlying e with | some d => pure d | none => stuck "no such type") >>= _) >>= _) = _
  rw [hP]
  rfl
/-- What two plain values come to. -/
theorem a_bin2 {op : BinOp} {e f : TypeId} {i : Nat} {y : Operand} : aBin P (tabOf P N) ⟨d, .binOp op e (.tmp i) y f, ty, ps, af, g⟩ t h op e (.tmp i) y = (match t.get i, evalA t y with
   | .lit (.int k a), some (.lit (.int k' b)) => ofPV h (pur P (binOp op e (.int k a) (.int k' b)))
   | .lit (.bool a), some (.lit (.bool b)) => boolM h a b (aBinR P (tabOf P N) ⟨d, .binOp op e (.tmp i) y f, ty, ps, af, g⟩ t h op e (.tmp i) y) op (und (tabOf P N) e)
   | .lit (.string a), some (.lit (.string b)) => ofPV h (pur P (binOp op e (.string a) (.string b)))
   | _, _ => aBinR P (tabOf P N) ⟨d, .binOp op e (.tmp i) y f, ty, ps, af, g⟩ t h op e (.tmp i) y) := by
  split
  · rename_i k a k' b h1 h2
    exact bin_ints (by rw [ev_tmp, h1]) h2
  · rename_i a b h1 h2
    unfold boolM
    split
    · rename_i hu
      unfold aBin
      rw [ev_tmp, h1, h2]
      simp only [pur_beq (und_out hu (by simp))]
      rfl
    · rename_i hu
      unfold aBin
      rw [ev_tmp, h1, h2]
      simp only [pur_bne (und_out hu (by simp))]
      rfl
    · rfl
  · rename_i a b h1 h2
    unfold aBin
    rw [ev_tmp, h1, h2]
  · rfl
theorem a_bin_tt {op : BinOp} {e f : TypeId} {i j : Nat} : aop P T ⟨d, .binOp op e (.tmp i) (.tmp j) f, ty, ps, af, g⟩ t h = aBin P T ⟨d, .binOp op e (.tmp i) (.tmp j) f, ty, ps, af, g⟩ t h op e (.tmp i) (.tmp j) := rfl
theorem a_bin_ti {op : BinOp} {e f : TypeId} {i : Nat} {k : IntKind} {n : Int} : aop P T ⟨d, .binOp op e (.tmp i) (.const (.int k n)) f, ty, ps, af, g⟩ t h = aBin P T ⟨d, .binOp op e (.tmp i) (.const (.int k n)) f, ty, ps, af, g⟩ t h op e (.tmp i) (.const (.int k n)) := rfl
theorem a_bin_ts {op : BinOp} {e f : TypeId} {i : Nat} {n : ByteArray} : aop P T ⟨d, .binOp op e (.tmp i) (.const (.string n)) f, ty, ps, af, g⟩ t h = aBin P T ⟨d, .binOp op e (.tmp i) (.const (.string n)) f, ty, ps, af, g⟩ t h op e (.tmp i) (.const (.string n)) := rfl
theorem a_bin_it {op : BinOp} {e f : TypeId} {j : Nat} {k : IntKind} {n : Int} : aop P T ⟨d, .binOp op e (.const (.int k n)) (.tmp j) f, ty, ps, af, g⟩ t h = (match t.get j with
   | .lit (.int k' b) => ofPV h (pur P (binOp op e (.int k n) (.int k' b)))
   | _ => aBin P T ⟨d, .binOp op e (.const (.int k n)) (.tmp j) f, ty, ps, af, g⟩ t h op e (.const (.int k n)) (.tmp j)) := by
  rw [a_bin]
  split
  · rename_i k' b hb
    exact bin_ints rfl (by rw [ev_tmp, hb])
  · rfl
theorem un_not {b : Bool} : pur P (Op.unary .not (.bool b)) = some (.ok (.bool !b)) := rfl
theorem un_neg {k : IntKind} {a : Int} : pur P (Op.unary .neg (.int k a)) = some (.ok (.int k (k.wrap (0 - a)))) := rfl
theorem lit2 {o : Oper} {x y : Operand} {a b c : Value} (hx : evalA t x = some (.lit a)) (hy : evalA t y = some (.lit b)) (hops : o.op.operands = #[x, y]) (hn : notSelect o.op = true)
    (he : pur P (execOp (litEnv t) o) = some (.ok (.value c))) (hc : ofVal c = some (.lit c)) : litOp P o t = some (.val (.lit c)) := by
  unfold litOp
  rw [if_pos (by rw [hops, hn]; simp [litAll, hx, hy, toVal]), he]
  simp [ofPR, hc]
theorem a_min {x y : Operand} {t1 t2 : Nat} : aop P T ⟨d, .call ⟨.builtin .min, #[x, y], #[t1, t2]⟩, ty, ps, af, g⟩ t h = (match evalA t x, evalA t y with
    | some (.lit (.int .i64 a)), some (.lit (.int .i64 b)) => some (.val (.lit (.int .i64 (if b < a then b else a))), h)
    | _, _ => aCall P T ⟨d, .call ⟨.builtin .min, #[x, y], #[t1, t2]⟩, ty, ps, af, g⟩ t h ⟨.builtin .min, #[x, y], #[t1, t2]⟩) := by
  split
  · rename_i a b hx hy
    rw [a_call]
    have ex : litEnv t x = .int .i64 a := by simp [litEnv, hx, toVal]
    have ey : litEnv t y = .int .i64 b := by simp [litEnv, hy, toVal]
    have hl := lit2 (P := P) (o := ⟨d, .call ⟨.builtin .min, #[x, y], #[t1, t2]⟩, ty, ps, af, g⟩) (c := .int .i64 (if b < a then b else a)) hx hy (by simp [Op.operands, Call.operands]) rfl (by
      simp only [execOp, resolve]
      simp [invoke, builtin, Builtin.min_, ex, ey]
      rfl) rfl
    simp only [aCall, aBuiltin, orLit, hl]
  · rfl
theorem a_max {x y : Operand} {t1 t2 : Nat} : aop P T ⟨d, .call ⟨.builtin .max, #[x, y], #[t1, t2]⟩, ty, ps, af, g⟩ t h = (match evalA t x, evalA t y with
    | some (.lit (.int .i64 a)), some (.lit (.int .i64 b)) => some (.val (.lit (.int .i64 (if a < b then b else a))), h)
    | _, _ => aCall P T ⟨d, .call ⟨.builtin .max, #[x, y], #[t1, t2]⟩, ty, ps, af, g⟩ t h ⟨.builtin .max, #[x, y], #[t1, t2]⟩) := by
  split
  · rename_i a b hx hy
    rw [a_call]
    have ex : litEnv t x = .int .i64 a := by simp [litEnv, hx, toVal]
    have ey : litEnv t y = .int .i64 b := by simp [litEnv, hy, toVal]
    have hl := lit2 (P := P) (o := ⟨d, .call ⟨.builtin .max, #[x, y], #[t1, t2]⟩, ty, ps, af, g⟩) (c := .int .i64 (if a < b then b else a)) hx hy (by simp [Op.operands, Call.operands]) rfl (by
      simp only [execOp, resolve]
      simp [invoke, builtin, Builtin.max_, ex, ey]
      rfl) rfl
    simp only [aCall, aBuiltin, orLit, hl]
  · rfl
/-! Calls. -/
theorem a_callv {f : Operand} {xs : Array Operand} {ts : Array TypeId} : aop P T ⟨d, .call ⟨.value f, xs, ts⟩, ty, ps, af, g⟩ t h = (match evalA t f, evals t xs.toList with
    | some f, some args => (callA P f args).map (·, h)
    | _, _ => none) := rfl
theorem a_append {x y : Operand} {t1 t2 : TypeId} : aop P T ⟨d, .call ⟨.builtin .append, #[x, y], #[t1, t2]⟩, ty, ps, af, g⟩ t h = (match evalA t x, evalA t y with
    | some s, some x => (appendA T h t1 t2 s x).map fun r => (.val r.1, r.2)
    | _, _ => aCall P T ⟨d, .call ⟨.builtin .append, #[x, y], #[t1, t2]⟩, ty, ps, af, g⟩ t h ⟨.builtin .append, #[x, y], #[t1, t2]⟩) := by
  split
  · rename_i s x hs hx
    rw [a_call]
    simp only [aCall, aBuiltin, evals, hs, hx]
  · rfl
/-- What is appended, the heap behind it by name. -/
theorem WOp_app {E : FE} {o : Oper} {l : List AI} {K : KK} {t1 t2 : TypeId} {s x : AV} {Q : AV → AH → Prop} (hq : ∃ s' h', appendA T h t1 t2 s x = some (s', h') ∧ Q s' h') (hk : ∀ s' h', Q s' h' → WB P T S E (setTmp t o.dst s') l h' K) :
    WOp P T S E t o l K ((appendA T h t1 t2 s x).map fun r => (.val r.1, r.2)) := by
  obtain ⟨s', h', ha, hQ⟩ := hq
  rw [ha]
  exact hk s' h' hQ
theorem WOpD_app {E : FE} {ops : Array Oper} {M : MO ops} {i : Nat} {o : Oper} {l : List Nat} {rs : List (Nat × RD × AV)} {k : List AI} {K : KK} {t1 t2 : TypeId} {s x : AV} {Q : AV → AH → Prop} (hq : ∃ s' h', appendA T h t1 t2 s x = some (s', h') ∧ Q s' h') (hk : ∀ s' h', Q s' h' → WDM P T S E (setTmp t o.dst s') M l rs k h' K) :
    WOpD P T S E t M i o l rs k K .acts ((appendA T h t1 t2 s x).map fun r => (.val r.1, r.2)) := by
  obtain ⟨s', h', ha, hQ⟩ := hq
  rw [ha]
  exact hk s' h' hQ
theorem tri_put {α : Type} (d : α) : ∀ (f : Nat) (t : Tri α) (k : Nat) (x y : α), Tri.put d f (Tri.put d f t k x) k y = Tri.put d f t k y
  | 0, _, _, _, _ => rfl
  | f + 1, t, k, x, y => by
    simp only [Tri.put]
    cases Nat.ble k 1 with
    | true => simp only [cond_true, Tri.lt, Tri.rt]
    | false =>
      cases Nat.beq (k % 2) 0 with
      | true => simp only [cond_true, cond_false, Tri.lt, Tri.rt, Tri.top, tri_put d f]
      | false => simp only [cond_false, Tri.lt, Tri.rt, Tri.top, tri_put d f]
theorem put_push {h : AH} {x y : AB} : (h.push x).put h.n y = h.push y := by
  unfold AH.put AH.push vPut vPush
  simp only
  rw [show Nat.blt h.n (h.n + 1) = true from Nat.blt_eq.mpr (Nat.lt_succ_self _), cond_true, tri_put]
/-! Guards. -/
theorem WReg_if {E : FE} {ops : Array Oper} {l : List Nat} {k : List AI} {K : KK} {o : Oper} {p : Prop} [Decidable p] (h1 : p → WReg P T S E t ops l k h K o (some true)) (h2 : ¬p → WReg P T S E t ops l k h K o (some false)) : WReg P T S E t ops l k h K o (some (decide p)) := by
  by_cases hp : p
  · rw [decide_eq_true hp]; exact h1 hp
  · rw [decide_eq_false hp]; exact h2 hp
theorem WReg_bool {E : FE} {ops : Array Oper} {l : List Nat} {k : List AI} {K : KK} {o : Oper} {b : Bool} (h1 : b = true → WReg P T S E t ops l k h K o (some true)) (h2 : b = false → WReg P T S E t ops l k h K o (some false)) : WReg P T S E t ops l k h K o (some b) := by
  cases b
  · exact h2 rfl
  · exact h1 rfl
section
variable {E : FE} {ops : Array Oper} {M : MO ops} {i : Nat} {l : List Nat} {rs : List (Nat × RD × AV)} {k : List AI} {K : KK} {o : Oper} {v : AV} {h1 : AH} {f : FuncId} {a : List AV}
theorem WOpD_av : WOpD P T S E t M i o l rs k K .acts (some (.val v, h1)) = WDM P T S E (setTmp t o.dst v) M l rs k h1 K := rfl
theorem WOpD_ae : WOpD P T S E t M i o l rs k K .acts (some (.enter f a, h1)) = WC P T S f a h1 fun v h2 => WDM P T S E (setTmp t o.dst v) M l rs k h2 K := rfl
theorem WOpD_s : WOpD P T S E t M i o l rs k K .still (some (.val v, h1)) = WDM P T S E (setTmp t o.dst v) M l rs k h1 K := rfl
theorem WOpD_l : WOpD P T S E t M i o l rs k K .alloc (some (.val v, h1)) = WDM P T S E (setTmp t o.dst v) M l rs k h1 K := rfl
theorem WOpD_r : WOpD P T S E t M i o l rs k K .reads (some (.val v, h1)) = (match rdOf o t with
    | some rd => WDM P T S E (setTmp t o.dst v) M l ((i, rd, v) :: rs) k h1 K
    | none => (litOp P o t).isSome = true ∧ WDM P T S E (setTmp t o.dst v) M l rs k h1 K) := rfl
end
theorem WRegD_t {E : FE} {ops : Array Oper} {M : MO ops} {i : Nat} {l : List Nat} {rs : List (Nat × RD × AV)} {k : List AI} {K : KK} {o : Oper} : WRegD P T S E t M i l rs k h K o (some true) = WOpD P T S E t M i o l rs k K (kindOf T o) (aop P T o t h) := rfl
theorem WRegD_f {E : FE} {ops : Array Oper} {M : MO ops} {i : Nat} {l : List Nat} {rs : List (Nat × RD × AV)} {k : List AI} {K : KK} {o : Oper} : WRegD P T S E t M i l rs k h K o (some false) = WDM P T S E (setTmp t o.dst aundef) M l rs k h K := rfl
theorem waits_eq {n M i k : Nat} : waits n M i k = decide ((M >>> (n * i + k)) % 2 = 1) := by
  unfold waits
  by_cases h : (M >>> (n * i + k)) % 2 = 1
  · rw [h]; rfl
  · rw [decide_eq_false h]
    exact Bool.eq_false_iff.mpr fun hh => h (Nat.eq_of_beq_eq_true hh)
theorem dropR_nil {n m i : Nat} : dropR n m i [] = [] := rfl
theorem dropR_cons {n m i k : Nat} {r : RD} {v : AV} {rs : List (Nat × RD × AV)} : dropR n m i ((k, r, v) :: rs) = bif waits n m i k then dropR n m i rs else (k, r, v) :: dropR n m i rs := by
  unfold dropR
  rw [List.filter_cons]
  cases waits n m i k <;> rfl
theorem ld_at {h : AH} {b : Nat} {l : List AV} {e' : TypeId} (hb : h.at b = some (.cells l e')) (e : TypeId) (off : Nat) : loadA T h e b off = ldL T e l off := ld_own hb
/-! Structs and arrays that are built. -/
def placesOf (T : TT) (t : TypeId) : Option (List (Nat × Nat)) := match und T t with
  | some (.struct fs) => places T fs.toList
  | _ => none
def bdM (h : AH) : Option AV → Option (List (Nat × Nat)) → Option (List (Nat × AV)) → AR
  | some (.agg z), some pl, some ps => val h ((fillA (fun i => pl[i]?) z ps).map .agg)
  | _, _, _ => none
theorem bd_eq {e : TypeId} {p : Array (Nat × Operand)} (hp : (placesOf T e).isSome = true) : aop P T ⟨d, .build e p, ty, ps, af, g⟩ t h = bdM h (zeroT T e) (placesOf T e) (evalParts t p.toList) := by
  obtain ⟨pl, hp⟩ := Option.isSome_iff_exists.1 hp
  rw [hp]
  rw [a_build]
  unfold aBuild bdM
  unfold placesOf at hp
  split at hp
  · rename_i fs hu
    cases evalParts t p.toList with
    | none => cases zeroT T e with
      | none => rfl
      | some z => cases z <;> rfl
    | some l =>
      simp only
      unfold buildA
      rw [hu]
      cases zeroT T e with
      | none => rfl
      | some z => cases z <;> first | rfl | (simp only [hp])
  · cases hp
def arrOf (T : TT) (t : TypeId) : Option Nat := match und T t with
  | some (.array _ e) => sizeT T e
  | _ => none
theorem bda_eq {e : TypeId} {p : Array (Nat × Operand)} (hp : (arrOf T e).isSome = true) : aop P T ⟨d, .build e p, ty, ps, af, g⟩ t h = (match zeroT T e, evalParts t p.toList with
    | some (.agg z), some l => val h ((fillA (fun i => some (i * (arrOf T e).getD 0, (arrOf T e).getD 0)) z l).map .agg)
    | _, _ => none) := by
  obtain ⟨n, hp⟩ := Option.isSome_iff_exists.1 hp
  rw [hp]
  simp only [Option.getD_some]
  rw [a_build]
  unfold aBuild
  unfold arrOf at hp
  split at hp
  · rename_i m el hu
    cases evalParts t p.toList with
    | none => cases zeroT T e with
      | none => rfl
      | some z => cases z <;> rfl
    | some l =>
      simp only
      unfold buildA
      rw [hu]
      cases zeroT T e with
      | none => rfl
      | some z => cases z <;> first | rfl | (simp only [hp])
  · cases hp
/-! Reads that are held. -/
theorem hold_nil : hold T h [] = true := rfl
theorem hold_cons {i : Nat} {r : RD} {v : AV} {rs : List (Nat × RD × AV)} : hold T h ((i, r, v) :: rs) = ((match rdA T h r with | some u => AV.same 8 u v | none => false) && hold T h rs) := rfl
theorem same_int {n : Nat} {k : IntKind} {a : Int} : AV.same n (.lit (.int k a)) (.lit (.int k a)) = true := by cases n <;> cases k <;> simp [AV.same, scalEq]
theorem same_bool {n : Nat} {a : Bool} : AV.same n (.lit (.bool a)) (.lit (.bool a)) = true := by cases n <;> simp [AV.same, scalEq]
theorem same_str {n : Nat} {a : ByteArray} : AV.same n (.lit (.string a)) (.lit (.string a)) = true := by cases n <;> simp [AV.same, scalEq]
theorem same_sl {n : Nat} {v : AV} (hv : isSl v = true) : AV.same n v v = true := by
  obtain ⟨m, ⟨rfl, _⟩ | ⟨b, off, cap, rfl⟩⟩ := SlN.of hv
  · cases n <;> simp [AV.same, scalEq]
  · cases n <;> cases cap <;> simp [AV.same, capEq]
theorem same_agg {n : Nat} {l m : List AV} : AV.same (n + 1) (.agg l) (.agg m) = (l.length == m.length && (l.zip m).all fun (x, y) => AV.same n x y) := by simp [AV.same]
theorem same_one {n b i : Nat} : AV.same n (.ptr b i) (.ptr b i) = true := by cases n <;> simp [AV.same]
/-- Two ways that meet. -/
theorem WB_cut {E : FE} {k : List AI} {K : KK} {a : Code} (Inv : TM → AH → Prop) (ha : ∀ k' K', (∀ t' h', Inv t' h' → WB P T S E t' k' h' K') → WB P T S E t (.code a :: k') h K') (hk : ∀ t' h', Inv t' h' → WB P T S E t' k h' K) : WB P T S E t (.code a :: k) h K := ha k K hk
/-- A loop that counts. -/
theorem WB_for {E : FE} {k : List AI} {K : KK} {c : Code} (n : Nat) (Inv : Nat → TM → AH → Prop)
    (step : ∀ i t h, i < n → ((i : Int) < (n : Int)) = True → Inv i t h → (∀ t' h', Inv (i + 1) t' h' → WB P T S E t' (.lp c :: k) h' K) → WB P T S E t (.code c :: .lp c :: k) h K)
    (leave : ∀ t h, ((n : Int) < (n : Int)) = False → Inv n t h → WB P T S E t (.code c :: .lp c :: k) h K) : ∀ t h, Inv 0 t h → WB P T S E t (.lp c :: k) h K := by
  intro t h h0
  refine WB_ind (fun (i : Nat) t h => i ≤ n ∧ Inv i t h) (fun i => n - i) ?_ 0 t h ⟨Nat.zero_le _, h0⟩
  rintro i t h ⟨hi, hI⟩ ih
  by_cases hlt : i < n
  · exact step i t h hlt (by simp; omega) hI fun t' h' hI' => ih (i + 1) t' h' ⟨hlt, hI'⟩ (by omega)
  · obtain rfl : i = n := by omega
    exact leave t h (by simp) hI
end
end Go.Proofs.Ytkgbeihcepociaa.Ex
end
