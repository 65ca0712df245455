/- Part 6 of the proof: Rep, Wr, Tab, Bt, Core, Lay, Exf. -/
import Derived.IntWalk
import Derived.Shelf.Sort.Plain
import Derived.Shelf.Slices.In.SortNone
import Derived.Test.YtkgbeihcepociaaDoorProg
import Derived.Test.YtkgbeihcepociaaDoorM5
section

set_option linter.unusedSimpArgs false
set_option linter.unusedVariables false
namespace Go.Proofs.YtkgbeihcepociaaDoor.Ex
open Go
/-- How values of a type lie in cells; F: the blocks that they reach. -/
structure Rep (α : Type) where
  z : Nat
  is : (Nat → Prop) → AH → List AV → α → Prop
  len : ∀ {F h c x}, is F h c x → c.length = z
  one : ∀ {F h c x}, is F h c x → ∀ v ∈ c, v.one = true
  lift : ∀ {F G : Nat → Prop} {h h' : AH} {c x}, is F h c x → (∀ b, F b → b < h.n → h'.at b = h.at b ∧ G b) → is G h' c x
def I64 (n : Int) : Prop := -9223372036854775808 ≤ n ∧ n < 9223372036854775808
def RInt : Rep Int where
  z := 1
  is _ _ c x := c = [.lit (.int .i64 x)] ∧ I64 x
  len := fun ⟨h, _⟩ => by subst h; rfl
  one := fun ⟨h, _⟩ v hv => by subst h; simp at hv; subst hv; rfl
  lift := fun h _ => h
def RBool : Rep Bool where
  z := 1
  is _ _ c x := c = [.lit (.bool x)]
  len := fun h => by subst h; rfl
  one := fun h v hv => by subst h; simp at hv; subst hv; rfl
  lift := fun h _ => h
def RStr : Rep ByteArray where
  z := 1
  is _ _ c x := c = [.lit (.string x)]
  len := fun h => by subst h; rfl
  one := fun h v hv => by subst h; simp at hv; subst hv; rfl
  lift := fun h _ => h
def RPair {α β : Type} (R : Rep α) (S : Rep β) : Rep (α × β) where
  z := R.z + S.z
  is F h c x := ∃ c1 c2, c = c1 ++ c2 ∧ R.is F h c1 x.1 ∧ S.is F h c2 x.2
  len := fun ⟨c1, c2, e, h1, h2⟩ => by subst e; rw [List.length_append, R.len h1, S.len h2]
  one := fun ⟨c1, c2, e, h1, h2⟩ v hv => by
    subst e
    exact (List.mem_append.1 hv).elim (R.one h1 v) (S.one h2 v)
  lift := fun ⟨c1, c2, e, h1, h2⟩ hh => ⟨c1, c2, e, R.lift h1 hh, S.lift h2 hh⟩
def RMap {α β : Type} (f : β → α) (R : Rep α) : Rep β where
  z := R.z
  is F h c x := R.is F h c (f x)
  len := R.len
  one := R.one
  lift := R.lift
/-- A slice's length. -/
def SlN (v : AV) (n : Nat) : Prop := (v = .lit (.slice none 0 0) ∧ n = 0) ∨ ∃ b off cap, v = .sl b off n cap
def slB : AV → Nat
  | .sl b _ _ _ => b
  | _ => 0
def slO : AV → Nat
  | .sl _ o _ _ => o
  | _ => 0
/-- The blocks of a slice's cells. -/
def SlF (F : Nat → Prop) (v : AV) : Prop := ∀ b off n cap, v = .sl b off n cap → F b
theorem getR_lt {h : AH} {b : Nat} {row : List AV} (hr : getR h b = some row) : b < h.n := by
  unfold getR at hr
  cases hq : h.at b with
  | none => rw [hq] at hr; cases hr
  | some ab => exact at_lt hq
theorem Rd.slN {h : AH} {v : AV} {z : Nat} {L : List (List AV)} (hr : Rd h v z L) : SlN v L.length := by
  rcases hr.2 with ⟨rfl, rfl⟩ | ⟨b, off, cap, row, rfl, _⟩
  · exact .inl ⟨rfl, rfl⟩
  · exact .inr ⟨b, off, cap, rfl⟩
theorem SlN.one {v : AV} {n : Nat} (h : SlN v n) : v.one = true := by
  rcases h with ⟨rfl, _⟩ | ⟨b, off, cap, rfl⟩ <;> rfl
theorem SlN.lenA {v : AV} {n : Nat} (h : SlN v n) : lenA v = some n := by
  rcases h with ⟨rfl, rfl⟩ | ⟨b, off, cap, rfl⟩ <;> rfl
theorem Rd.lift {h h' : AH} {v : AV} {z : Nat} {L : List (List AV)} (hr : Rd h v z L) (hv : ∀ b off n cap, v = .sl b off n cap → b < h.n → h'.at b = h.at b) : Rd h' v z L :=
  hr.ext (n0 := 0) fun b off len cap e => by
    rcases hr.2 with ⟨rfl, _⟩ | ⟨b2, off2, cap2, row, rfl, h1, _⟩
    · cases e
    · cases e
      exact hv _ _ _ _ rfl (getR_lt h1)
/-- Elements and their cells. -/
def Els {α : Type} (R : Rep α) (F : Nat → Prop) (h : AH) (L : List (List AV)) (xs : List α) : Prop := L.length = xs.length ∧ ∀ (i : Nat) c x, L[i]? = some c → xs[i]? = some x → R.is F h c x
theorem Els.nil {α : Type} {R : Rep α} {F : Nat → Prop} {h : AH} : Els R F h [] [] := ⟨rfl, fun i c x hc => by simp at hc⟩
theorem Els.lens {α : Type} {R : Rep α} {F : Nat → Prop} {h : AH} {L : List (List AV)} {xs : List α} (he : Els R F h L xs) : ∀ c ∈ L, c.length = R.z := fun c hc => by
  obtain ⟨i, hi, rfl⟩ := List.mem_iff_getElem.1 hc
  have hx : i < xs.length := by rw [← he.1]; exact hi
  exact R.len (he.2 i _ xs[i] (List.getElem?_eq_getElem hi) (List.getElem?_eq_getElem hx))
theorem Els.ones {α : Type} {R : Rep α} {F : Nat → Prop} {h : AH} {L : List (List AV)} {xs : List α} (he : Els R F h L xs) : L.flatten.all AV.one = true := by
  simp only [List.all_eq_true, List.mem_flatten]
  rintro v ⟨c, hc, hv⟩
  obtain ⟨i, hi, rfl⟩ := List.mem_iff_getElem.1 hc
  have hx : i < xs.length := by rw [← he.1]; exact hi
  exact R.one (he.2 i _ xs[i] (List.getElem?_eq_getElem hi) (List.getElem?_eq_getElem hx)) v hv
theorem Els.lift {α : Type} {R : Rep α} {F G : Nat → Prop} {h h' : AH} {L : List (List AV)} {xs : List α} (he : Els R F h L xs) (hh : ∀ b, F b → b < h.n → h'.at b = h.at b ∧ G b) : Els R G h' L xs :=
  ⟨he.1, fun i c x hc hx => R.lift (he.2 i c x hc hx) hh⟩
theorem Els.snoc {α : Type} {R : Rep α} {F : Nat → Prop} {h : AH} {L : List (List AV)} {xs : List α} {c : List AV} {x : α} (he : Els R F h L xs) (hc : R.is F h c x) : Els R F h (L ++ [c]) (xs ++ [x]) := by
  refine ⟨by simp [he.1], fun i c' x' h1 h2 => ?_⟩
  by_cases hi : i < L.length
  · rw [List.getElem?_append_left hi] at h1
    rw [List.getElem?_append_left (by rw [← he.1]; exact hi)] at h2
    exact he.2 i _ _ h1 h2
  · rw [List.getElem?_append_right (by omega)] at h1
    rw [List.getElem?_append_right (by rw [← he.1]; omega), ← he.1] at h2
    have h0 : i - L.length = 0 := by
      cases hk : i - L.length with
      | zero => rfl
      | succ k => rw [hk] at h1; simp at h1
    rw [h0] at h1 h2
    simp at h1 h2
    subst h1 h2
    exact hc
theorem Els.append {α : Type} {R : Rep α} {F : Nat → Prop} {h : AH} {L M : List (List AV)} {xs ys : List α} (he : Els R F h L xs) (hm : Els R F h M ys) : Els R F h (L ++ M) (xs ++ ys) := by
  refine ⟨by simp [he.1, hm.1], fun i c x h1 h2 => ?_⟩
  by_cases hi : i < L.length
  · rw [List.getElem?_append_left hi] at h1
    rw [List.getElem?_append_left (by rw [← he.1]; exact hi)] at h2
    exact he.2 i _ _ h1 h2
  · rw [List.getElem?_append_right (by omega)] at h1
    rw [List.getElem?_append_right (by rw [← he.1]; omega), ← he.1] at h2
    exact hm.2 _ _ _ h1 h2
theorem Els.get {α : Type} {R : Rep α} {F : Nat → Prop} {h : AH} {L : List (List AV)} {xs : List α} (he : Els R F h L xs) {i : Nat} {x : α} (hx : xs[i]? = some x) : ∃ c, L[i]? = some c ∧ R.is F h c x := by
  have hi : i < L.length := by rw [he.1]; exact (List.getElem?_eq_some_iff.1 hx).1
  exact ⟨L[i], List.getElem?_eq_getElem hi, he.2 i _ x (List.getElem?_eq_getElem hi) hx⟩
/-- A slice's capacity is not less than its length. -/
def CapOk (z : Nat) (v : AV) : Prop := ∀ b off n cap, v = .sl b off n cap → match cap with
  | .kn k => n ≤ k
  | .un z' => z' = z
/-- A slice that is read. -/
def RSl {α : Type} (R : Rep α) : Rep (List α) where
  z := 1
  is F h c xs := ∃ v L, c = [v] ∧ Rd h v R.z L ∧ SlF F v ∧ CapOk R.z v ∧ Els R F h L xs
  len := fun ⟨v, L, e, _⟩ => by subst e; rfl
  one := fun ⟨v, L, e, h1, _⟩ u hu => by
    subst e
    simp at hu
    subst hu
    exact h1.slN.one
  lift := fun ⟨v, L, e, h1, h2, hc, h3⟩ hh => ⟨v, L, e, h1.lift fun b off n cap e' hb => (hh b (h2 b off n cap e') hb).1,
    fun b off n cap e' => by
      rcases h1.2 with ⟨hv, _⟩ | ⟨b2, off2, cap2, row, hv, h4, _⟩
      · rw [hv] at e'; cases e'
      · have e2 := e'
        rw [hv] at e'
        cases e'
        exact (hh _ (h2 _ _ _ _ e2) (getR_lt h4)).2, hc, h3.lift hh⟩
/-- Is it a slice? Its length. -/
def isSl : AV → Bool
  | .sl .. => true
  | .lit (.slice none 0 0) => true
  | _ => false
def lenD : AV → Nat
  | .sl _ _ n _ => n
  | _ => 0
section
variable {α : Type} {R : Rep α} {F : Nat → Prop} {h : AH} {v : AV} {xs : List α}
theorem SlN.isSl {n : Nat} (h : SlN v n) : isSl v = true := by rcases h with ⟨rfl, _⟩ | ⟨b, off, cap, rfl⟩ <;> rfl
theorem SlN.lenD {n : Nat} (h : SlN v n) : lenD v = n := by rcases h with ⟨rfl, rfl⟩ | ⟨b, off, cap, rfl⟩ <;> rfl
theorem SlN.of (h : Ex.isSl v = true) : ∃ n, SlN v n := by
  unfold Ex.isSl at h
  split at h
  · exact ⟨_, .inr ⟨_, _, _, rfl⟩⟩
  · exact ⟨0, .inl ⟨rfl, rfl⟩⟩
  · cases h
/-- A slice's value that reads as some list. -/
def IsSl (R : Rep α) (F : Nat → Prop) (h : AH) (v : AV) (xs : List α) : Prop := (RSl R).is F h [v] xs
theorem IsSl.mk {L : List (List AV)} (h1 : Rd h v R.z L) (h2 : SlF F v) (hc : CapOk R.z v) (h3 : Els R F h L xs) : IsSl R F h v xs := ⟨v, L, rfl, h1, h2, hc, h3⟩
theorem IsSl.out (hs : IsSl R F h v xs) : ∃ L, Rd h v R.z L ∧ SlF F v ∧ CapOk R.z v ∧ Els R F h L xs := by
  obtain ⟨v', L, e, h1, h2, hc, h3⟩ := hs
  cases e
  exact ⟨L, h1, h2, hc, h3⟩
theorem IsSl.slN (hs : IsSl R F h v xs) : SlN v xs.length := by
  obtain ⟨L, h1, _, _, h3⟩ := hs.out
  rw [← h3.1]
  exact h1.slN
theorem IsSl.one (hs : IsSl R F h v xs) : v.one = true := hs.slN.one
theorem IsSl.isSl (hs : IsSl R F h v xs) : Ex.isSl v = true := hs.slN.isSl
theorem IsSl.lenD (hs : IsSl R F h v xs) : Ex.lenD v = xs.length := hs.slN.lenD
theorem IsSl.cells (hs : IsSl R F h v xs) : v.cells = [v] := cells_one hs.one
theorem IsSl.lift {G : Nat → Prop} {h' : AH} (hs : IsSl R F h v xs) (hh : ∀ b, F b → b < h.n → h'.at b = h.at b ∧ G b) : IsSl R G h' v xs := (RSl R).lift hs hh
theorem IsSl.ext {h' : AH} {n0 : Nat} (hs : IsSl R F h v xs) (he : Ext n0 h h') (hn : h.n ≤ n0) : IsSl R F h' v xs := hs.lift fun b hb hlt => ⟨he.2 b (by omega), hb⟩
theorem IsSl.nil : IsSl R F h (.lit (.slice none 0 0)) [] := .mk (L := []) ⟨by simp, .inl ⟨rfl, rfl⟩⟩ (fun b off n cap e => by cases e) (fun b off n cap e => by cases e) .nil
/-- An element's cells, read. -/
theorem IsSl.get {T : TT} (hs : IsSl R F h v xs) {i : Nat} {x : α} (hx : xs[i]? = some x) :
    ∃ c, R.is F h c x ∧ (∀ e n j, sizeT T e = some n → 0 < n → j + n ≤ R.z → loadA T h e (slB v) (slO v + i * R.z + j) = ldL T e c j) := by
  obtain ⟨L, h1, h2, _, h3⟩ := hs.out
  obtain ⟨c, hc, hi⟩ := h3.get hx
  refine ⟨c, hi, fun e n j hn h0 hj => ?_⟩
  rcases h1.2 with ⟨_, rfl⟩ | ⟨b, off, cap, row, rfl, h4, h5⟩
  · simp at hc
  · obtain ⟨row', e1, e2, e3, e4⟩ := h1.get hc
    rw [h4] at e1
    obtain rfl := Option.some.inj e1
    have key : ∀ k, k < R.z → row[off + i * R.z + k]? = c[k]? := fun k hk => by
      rw [← e2, List.getElem?_take, if_pos hk, List.getElem?_drop]
    simp only [loadA, slB, slO, h4, ldL, hn]
    cases ha : isAggT T e with
    | none => rfl
    | some a =>
      cases a with
      | false => exact key j (by omega)
      | true =>
        simp only [cut]
        rw [if_pos (by omega), if_pos (by omega)]
        simp only [Option.map_some, Option.some.injEq, AV.agg.injEq]
        apply List.ext_getElem?
        intro k
        by_cases hk : k < n
        · rw [List.getElem?_take, if_pos hk, List.getElem?_take, if_pos hk, List.getElem?_drop, List.getElem?_drop]
          rw [Nat.add_assoc]
          exact key (j + k) (by omega)
        · rw [List.getElem?_take, if_neg hk, List.getElem?_take, if_neg hk]
/-- Part of a slice. -/
def subCap (l : Nat) : Cap → Cap
  | .kn k => .kn (k - l)
  | .un z' => .un z'
def subSl (z l r : Nat) : AV → AV
  | .sl b off _ cap => .sl b (off + l * z) (r - l) (subCap l cap)
  | v => v
theorem IsSl.sub {l r : Nat} (hs : IsSl R F h v xs) (hlr : l ≤ r) (hr : r ≤ xs.length) : IsSl R F h (subSl R.z l r v) ((xs.take r).drop l) := by
  obtain ⟨L, h1, h2, hc, h3⟩ := hs.out
  have hL : L.length = xs.length := h3.1
  have hE : Els R F h ((L.take r).drop l) ((xs.take r).drop l) := by
    refine ⟨by simp [hL], fun i c x e1 e2 => ?_⟩
    rw [List.getElem?_drop, List.getElem?_take] at e1 e2
    split at e1
    · rename_i hi
      rw [if_pos hi] at e2
      exact h3.2 _ _ _ e1 e2
    · cases e1
  rcases h1.2 with ⟨rfl, rfl⟩ | ⟨b, off, cap, row, rfl, h4, h5⟩
  · refine .mk (L := []) ⟨by simp, .inl ⟨rfl, rfl⟩⟩ (fun b off n cap e => by cases e) (fun b off n cap e => by cases e) ?_
    have : xs = [] := List.eq_nil_of_length_eq_zero (by rw [← hL]; rfl)
    subst this
    simpa using Els.nil
  · refine .mk (L := (L.take r).drop l) ⟨fun c hc => h1.1 c (List.mem_of_mem_take (List.mem_of_mem_drop hc)), .inr ⟨b, off + l * R.z, subCap l cap, row, ?_, h4, ?_⟩⟩ (fun b' off' n' cap' e => ?_) (fun b' off' n' cap' e => ?_) hE
    · show AV.sl b (off + l * R.z) (r - l) (subCap l cap) = _
      rw [show ((L.take r).drop l).length = r - l by rw [List.length_drop, List.length_take]; omega]
    · have hlen : ((L.take r).drop l).length = r - l := by rw [List.length_drop, List.length_take]; omega
      rw [hlen]
      unfold cut at h5 ⊢
      split at h5
      case isFalse => cases h5
      rename_i hfit
      have h5 := Option.some.inj h5
      have m1 : l * R.z + (r - l) * R.z = r * R.z := by rw [← Nat.add_mul]; congr 1; omega
      have m2 : r * R.z ≤ L.length * R.z := Nat.mul_le_mul_right _ (by omega)
      have hp := Nat.mul_le_mul_right R.z (show l ≤ r by omega)
      rw [if_pos (by omega)]
      congr 1
      have hflat : ∀ (M : List (List AV)) (k : Nat), (∀ c ∈ M, c.length = R.z) → (M.drop k).flatten = M.flatten.drop (k * R.z) := by
        intro M
        induction M with
        | nil => intro k _; simp
        | cons a M ih =>
          intro k hM
          cases k with
          | zero => simp
          | succ k =>
            rw [List.drop_succ_cons, ih k (fun c hc => hM c (by simp [hc])), List.flatten_cons, Nat.succ_mul, Nat.add_comm, ← List.drop_drop, List.drop_left' (hM a (by simp))]
      have hflat2 : ∀ (M : List (List AV)) (k : Nat), (∀ c ∈ M, c.length = R.z) → (M.take k).flatten = M.flatten.take (k * R.z) := by
        intro M
        induction M with
        | nil => intro k _; simp
        | cons a M ih =>
          intro k hM
          cases k with
          | zero => simp
          | succ k =>
            have ha := hM a (by simp)
            rw [List.take_succ_cons, List.flatten_cons, List.flatten_cons, ih k (fun c hc => hM c (by simp [hc])), Nat.succ_mul, List.take_append, List.take_of_length_le (l := a) (by omega), ha]
            congr 2
            omega
      rw [hflat _ _ (fun c hc => h1.1 c (List.mem_of_mem_take hc)), hflat2 _ _ h1.1, ← h5, List.take_take, List.drop_take, List.drop_drop]
      congr 1
      omega
    · show F b'
      have e' : AV.sl b (off + l * R.z) (r - l) (subCap l cap) = .sl b' off' n' cap' := e
      cases e'
      exact h2 b off _ cap rfl
    · have e' : AV.sl b (off + l * R.z) (r - l) (subCap l cap) = .sl b' off' n' cap' := e
      cases e'
      have := hc b off _ cap rfl
      cases cap with
      | kn k => show _ ≤ _; simp only at this; omega
      | un z' => exact this
/-! Slices of the run's own, that grow. -/
def OwnL (R : Rep α) (G : Nat → Prop) (n0 : Nat) (h : AH) (v : AV) (e : TypeId) (xs : List α) : Prop := ∃ L, Own n0 h v R.z e L ∧ Els R (fun b => G b ∧ Apart v b) h L xs
variable {G : Nat → Prop} {n0 : Nat} {e : TypeId}
theorem Own.slN {z : Nat} {L : List (List AV)} (h : Own n0 h v z e L) : SlN v L.length := by
  rcases h.2 with ⟨rfl, rfl⟩ | ⟨p, rfl, _⟩
  · exact .inl ⟨rfl, rfl⟩
  · exact .inr ⟨_, _, _, rfl⟩
theorem OwnL.nil : OwnL R G n0 h (.lit (.slice none 0 0)) e [] := ⟨[], ⟨by simp, .inl ⟨rfl, rfl⟩⟩, .nil⟩
theorem OwnL.slN (ho : OwnL R G n0 h v e xs) : SlN v xs.length := by
  obtain ⟨L, h1, h2⟩ := ho
  rw [← h2.1]
  exact h1.slN
theorem OwnL.one (ho : OwnL R G n0 h v e xs) : v.one = true := ho.slN.one
theorem OwnL.isSl (ho : OwnL R G n0 h v e xs) : Ex.isSl v = true := ho.slN.isSl
theorem OwnL.lenD (ho : OwnL R G n0 h v e xs) : Ex.lenD v = xs.length := ho.slN.lenD
theorem OwnL.cells (ho : OwnL R G n0 h v e xs) : v.cells = [v] := cells_one ho.one
theorem OwnL.lift {h' : AH} (ho : OwnL R G n0 h v e xs) (hv : ∀ b off n cap, v = .sl b off n cap → h'.at b = h.at b) (hh : ∀ b, G b → b < h.n → Apart v b → h'.at b = h.at b) : OwnL R G n0 h' v e xs := by
  obtain ⟨L, h1, h2⟩ := ho
  refine ⟨L, ⟨h1.1, ?_⟩, h2.lift fun b hb hlt => ⟨hh b hb.1 hlt hb.2, hb⟩⟩
  rcases h1.2 with hh | ⟨p, rfl, hp, hat⟩
  · exact .inl hh
  · exact .inr ⟨p, rfl, hp, (hv _ _ _ _ rfl).trans hat⟩
theorem OwnL.ext {h' : AH} {m : Nat} (ho : OwnL R G n0 h v e xs) (he : Ext m h h') (hm : h.n ≤ m) : OwnL R G n0 h' v e xs :=
  ho.lift (fun b off n cap ev => by
    obtain ⟨L, h1, h2⟩ := ho
    rcases h1.2 with ⟨hh, _⟩ | ⟨p, hh, hp, hat⟩
    · rw [hh] at ev; cases ev
    · rw [hh] at ev
      cases ev
      exact he.2 _ (by have := at_lt hat; omega)) (fun b _ hlt _ => he.2 b (by omega))
theorem OwnL.apart (ho : OwnL R G n0 h v e xs) {b : Nat} (hb : h.n ≤ b) : Apart v b := fun off n cap ev => by
  obtain ⟨L, h1, h2⟩ := ho
  rcases h1.2 with ⟨hh, _⟩ | ⟨p, hh, hp, hat⟩
  · rw [hh] at ev; cases ev
  · rw [hh] at ev
    cases ev
    have := at_lt hat
    omega
/-- It is read, and goes back. -/
theorem OwnL.toSl (ho : OwnL R G n0 h v e xs) (hG : ∀ b, G b → F b) (hn : ∀ b, n0 ≤ b → F b) : IsSl R F h v xs := by
  obtain ⟨L, h1, h2⟩ := ho
  refine .mk h1.rd (fun b off n cap ev => ?_) (fun b off n cap ev => ?_) (h2.lift fun b hb _ => ⟨rfl, hG b hb.1⟩)
  · rcases h1.2 with ⟨hh, _⟩ | ⟨p, hh, hp, hat⟩
    · rw [hh] at ev; cases ev
    · rw [hh] at ev; cases ev; exact hn _ hp
  · rcases h1.2 with ⟨hh, _⟩ | ⟨p, hh, hp, hat⟩
    · rw [hh] at ev; cases ev
    · rw [hh] at ev; cases ev; rfl
/-- Something is appended to it. -/
theorem OwnL.append {T : TT} {t tx : TypeId} {by' : Nat} {zv x : AV} {M : List (List AV)} {ys : List α} (ho : OwnL R G n0 h v e xs)
    (hu : und T t = some (.slice e)) (htx : und T tx = some (.slice e)) (hz : sizeT T e = some R.z) (hzv : zeroT T e = some zv) (hb : bytesT T e = some by')
    (hzl : zv.cells.length = R.z) (h0 : 0 < R.z) (h200 : R.z ≤ 200) (hx : srcA h R.z x = some M.flatten) (hxl : lenA x = some M.length) (hM : Els R (fun b => G b ∧ Apart v b) h M ys)
    (hn : xs.length + ys.length ≤ 4611686018427387904) (hby : (xs.length + ys.length) * by' ≤ 140737488355328) (hn0 : n0 ≤ h.n) :
    ∃ s' h', appendA T h t tx v x = some (s', h') ∧ OwnL R G n0 h' s' e (xs ++ ys) ∧ Ext n0 h h' ∧ ∀ b, b < h.n → Apart v b → h'.at b = h.at b ∧ Apart s' b := by
  obtain ⟨L, h1, h2⟩ := ho
  obtain ⟨s', h', a1, a2, a3, a4⟩ := append_own hu htx hz hzv hb hzl h0 h200 h1 hx hxl hM.lens hM.ones (by rw [h2.1, hM.1]; exact hn) (by rw [h2.1, hM.1]; exact hby) hn0
  exact ⟨s', h', a1, ⟨_, a2, (h2.append hM).lift fun b hb hlt => ⟨(a4 b hlt hb.2).1, hb.1, (a4 b hlt hb.2).2⟩⟩, a3, a4⟩
/-- One element, laid in a new block ahead. -/
theorem OwnL.snoc {T : TT} {t tx : TypeId} {by' p : Nat} {zv : AV} {c : List AV} {y : α} {cap : Cap} {e' : TypeId} (ho : OwnL R G n0 h v e xs)
    (hu : und T t = some (.slice e)) (htx : und T tx = some (.slice e)) (hz : sizeT T e = some R.z) (hzv : zeroT T e = some zv) (hb : bytesT T e = some by')
    (hzl : zv.cells.length = R.z) (h0 : 0 < R.z) (h200 : R.z ≤ 200) (hp : h.at p = some (.cells c e')) (hc : R.is (fun b => G b ∧ Apart v b) h c y)
    (hn : xs.length + 1 ≤ 4611686018427387904) (hby : (xs.length + 1) * by' ≤ 140737488355328) (hn0 : n0 ≤ h.n) :
    ∃ s' h', appendA T h t tx v (.sl p 0 1 cap) = some (s', h') ∧ OwnL R G n0 h' s' e (xs ++ [y]) ∧ Ext n0 h h' ∧ ∀ b, b < h.n → Apart v b → h'.at b = h.at b ∧ Apart s' b := by
  refine ho.append hu htx hz hzv hb hzl h0 h200 (M := [c]) (ys := [y]) ?_ rfl (Els.nil.snoc hc) hn hby hn0
  have hg : getR h p = some c := by unfold getR; rw [hp]
  simp only [srcA, hg, cut]
  rw [if_pos (by rw [R.len hc]; omega)]
  simp [R.len hc ▸ List.take_length]
end
end Go.Proofs.YtkgbeihcepociaaDoor.Ex
end

section

set_option linter.unusedSimpArgs false
set_option linter.unusedVariables false
namespace Go.Proofs.YtkgbeihcepociaaDoor.Ex
open Go
section
variable {P : Program} {T : TT} {S : Sums} {t : TM} {h : AH} {d : Option Tmp} {ty : TypeId} {ps : String} {af : Array Edge} {g : Option (Nat × Bool)} {N : NT}
def isSlT (T : TT) (t : TypeId) : Bool := match und T t with
  | some (.slice _) => true
  | _ => false
/-- A slice's element: its cells. -/
def szE (T : TT) (t : TypeId) : Nat := match und T t with
  | some (.slice e) => (sizeT T e).getD 0
  | _ => 0
def isPtr : AV → Bool
  | .ptr _ _ => true
  | _ => false
theorem und_tab {t : TypeId} {dd : TypeDesc} (hu : und (tabOf P N) t = some dd) : (P.underlying t).getD .invalid = dd := by
  unfold und tabOf at hu
  cases hq : N.has t with
  | false => rw [hq] at hu; cases hu
  | true => rw [hq] at hu; simpa [tiOf] using hu
theorem und_tab_sl {t e : TypeId} (hu : und (tabOf P N) t = some (.slice e)) : P.underlying t = some (.slice e) := by
  have := und_tab hu
  cases hq : P.underlying t with
  | none => rw [hq] at this; cases this
  | some x => rw [hq] at this; exact congrArg some this
theorem isSlT_out {t : TypeId} (hT : isSlT T t = true) : ∃ e, und T t = some (.slice e) := by
  unfold isSlT at hT
  split at hT
  · rename_i e hu; exact ⟨e, hu⟩
  · cases hT
theorem pur_prog {α : Type} {f : Program → Sem α} : pur P (program >>= f) = pur P (f P) := rfl
theorem a_len {i ty' : Nat} (hs : isSl (t.get i) = true) (hT : isSlT (tabOf P N) ty' = true) :
    aop P (tabOf P N) ⟨d, .call ⟨.builtin .len, #[.tmp i], #[ty']⟩, ty, ps, af, g⟩ t h = some (.val (.lit (.int .i64 (lenD (t.get i)))), h) := by
  obtain ⟨e, hu⟩ := isSlT_out hT
  have hP := und_tab_sl hu
  rw [a_call]
  obtain ⟨n, ⟨hv, _⟩ | ⟨b, off, cap, hv⟩⟩ := SlN.of hs
  · have he : litEnv t (.tmp i) = .slice none 0 0 := by simp [litEnv, ev_tmp, hv, toVal]
    have hl : litOp P ⟨d, .call ⟨.builtin .len, #[.tmp i], #[ty']⟩, ty, ps, af, g⟩ t = some (.val (.lit (.int .i64 0))) := by
      simp only [litOp, notSelect, Op.operands, Call.operands, execOp, resolve]
      simp [litAll, ev_tmp, hv, toVal, invoke, builtin, Builtin.len_, he, underlying]
      rw [pur_prog, hP]
      rfl
    simp only [aCall, aBuiltin, evals, ev_tmp, hv, orLit, hl, lenD]
    rfl
  · simp only [aCall, aBuiltin, evals, ev_tmp, hv, hu, lenD]
/-- An element's place. -/
def iaM (h : AH) (v : AV) (z : Nat) : Option Nat → AR
  | some k => if k < lenD v then some (.val (.ptr (slB v) (slO v + k * z)), h) else none
  | none => none
theorem iaM_some {v : AV} {z k : Nat} : iaM h v z (some k) = if k < lenD v then some (.val (.ptr (slB v) (slO v + k * z)), h) else none := rfl
theorem szE_eq {e el z : Nat} (hu : und T e = some (.slice el)) (hz : sizeT T el = some z) : szE T e = z := by unfold szE; rw [hu]; simp [hz]
def szOk (T : TT) (t : TypeId) : Bool := match und T t with
  | some (.slice e) => (sizeT T e).isSome && Nat.blt 0 ((sizeT T e).getD 0)
  | _ => false
theorem szOk_out {e : TypeId} (hT : szOk T e = true) : ∃ el z, und T e = some (.slice el) ∧ sizeT T el = some z ∧ szE T e = z ∧ 0 < z := by
  unfold szOk at hT
  split at hT
  case h_2 => cases hT
  rename_i el hu
  simp only [Bool.and_eq_true] at hT
  obtain ⟨z, hz⟩ := Option.isSome_iff_exists.1 hT.1
  refine ⟨el, z, hu, hz, szE_eq hu hz, ?_⟩
  have := Nat.blt_eq.mp hT.2
  rw [hz] at this
  exact this
theorem a_ia {e i : Nat} {y : Operand} (hs : isSl (t.get i) = true) (hT : szOk T e = true) : aop P T ⟨d, .indexAddr e (.tmp i) y, ty, ps, af, g⟩ t h = iaM h (t.get i) (szE T e) ((evalA t y).bind natA) := by
  rw [a_indexAddr]
  obtain ⟨el, z, hu, hz, hzz, _⟩ := szOk_out hT
  rw [hzz]
  unfold aIndexAddr
  obtain ⟨n, ⟨hv, _⟩ | ⟨b, off, cap, hv⟩⟩ := SlN.of hs
  · rw [hu, ev_tmp, hv]
    cases (evalA t y).bind natA <;> simp [iaM, lenD]
  · rw [hu, ev_tmp, hv]
    cases (evalA t y).bind natA with
    | none => simp [iaM]
    | some k =>
      by_cases hk : k < n
      · simp [iaM, lenD, slB, slO, hz, hk]
      · simp [iaM, lenD, slB, slO, hz, hk]
theorem a_iap {e i : Nat} {y : Operand} (hs : isPtr (t.get i) = true) : aop P T ⟨d, .indexAddr e (.tmp i) y, ty, ps, af, g⟩ t h = aIndexAddr T t h e (.tmp i) y := rfl
/-- Part of a slice. -/
def aSlR (P : Program) (T : TT) (o : Oper) (t : TM) (h : AH) (e : TypeId) (x : Operand) (lo hi mx : Option Operand) : AR := aSlice P T o t h e x lo hi mx
def slM (h : AH) (v : AV) (z : Nat) (lo hi : Int) (r : AR) : AR := if 0 ≤ lo ∧ lo ≤ hi ∧ hi ≤ (lenD v : Int) then some (.val (subSl z lo.toNat hi.toNat v), h) else r
theorem sl_none {o : Oper} {i : Nat} (hx : .tmp i ∈ o.op.operands) {b off n : Nat} {cap : Cap} (hv : t.get i = .sl b off n cap) : litOp P o t = none := by
  have key : ∀ l : List Operand, Operand.tmp i ∈ l → litAll t l = false := by
    intro l
    induction l with
    | nil => intro h; cases h
    | cons a r ih =>
      intro h
      cases h with
      | head => simp [litAll, ev_tmp, hv, toVal]
      | tail _ h =>
        have := ih h
        simp only [litAll]
        split
        · rw [this]; simp
        · rfl
  have := key o.op.operands.toList (by simpa using hx)
  unfold litOp
  rw [this]
  simp
theorem capGe_ok {z n k : Nat} {cap : Cap} (hk : k ≤ n) (hc : match cap with | .kn k => n ≤ k | .un z' => z' = z) : capGe cap n k = some true := by
  cases cap with
  | kn m => simp only at hc; simp [capGe]; omega
  | un z' => simp [capGe, hk]
theorem sl1_ok {e : TypeId} {v : AV} {l r : Nat} {lo hi : Option Nat} (hT : szOk T e = true) (hc : CapOk (szE T e) v) {b off n : Nat} {cap : Cap} (hv : v = .sl b off n cap) (hl : lo.getD 0 = l) (hr : hi.getD n = r) (hlr : l ≤ r) (hrn : r ≤ n) :
    aSlice1 T h e v lo hi none = some (.val (subSl (szE T e) l r v), h) := by
  obtain ⟨el, z, hu, hz, hzz, _⟩ := szOk_out hT
  subst hv
  have hcap := hc b off n cap rfl
  rw [hzz] at hcap ⊢
  unfold aSlice1
  rw [hu]
  simp only [hz]
  have hb : boundsA n cap lo hi none = some (l, r, subCap l cap) := by
    unfold boundsA
    simp only [hl, hr, capGe_ok hrn hcap]
    rw [if_pos (by simp [hlr])]
    cases cap <;> rfl
  rw [hb]
  simp only
  have hf : capFits z (subCap l cap) = true := by
    cases cap with
    | kn k => rfl
    | un z' => simp only at hcap; subst hcap; simp [capFits, subCap]
  rw [hf]
  rfl
theorem nil_slice {e : TypeId} {lo hi : Option Value} (hP : P.underlying e = some (.slice ty)) (hl : lo = none ∨ lo = some (.int .i64 0)) (hh : hi = none ∨ hi = some (.int .i64 0)) (hi' : (P.info? ty).isSome = true) :
    pur P (do let x ← Instr.sliceAt e (.slice none 0 0) lo hi none; pure (Next.value x)) = some (.ok (.value (.slice none 0 0))) := by
  obtain ⟨ii, hii⟩ := Option.isSome_iff_exists.1 hi'
  have u1 : ∀ {α β : Type} (f : TypeDesc → Sem α) (g : α → Sem β), pur P ((underlying e >>= f) >>= g) = pur P (f (.slice ty) >>= g) := fun f g => by
    show pur P (((match P.underlying e with | some d => pure d | none => stuck "no such type") >>= f) >>= g) = _
    rw [hP]
    rfl
  have u2 : ∀ {α β : Type} (f : Nat → Sem α) (g : α → Sem β), pur P ((sizeOf ty >>= f) >>= g) = pur P (f ii.size >>= g) := fun f g => by
    show pur P (((((match P.info? ty with | some i => pure i | none => stuck "no such type") >>= fun i => pure i.size)) >>= f) >>= g) = _
    rw [hii]
    rfl
  unfold Instr.sliceAt
  rw [u1]
  show pur P (Instr.slice e (.slice none 0 0) lo hi none >>= _) = _
  unfold Instr.slice
  rw [u1]
  rcases hl with rfl | rfl <;> rcases hh with rfl | rfl <;> exact u2 _ _
theorem nilSl_lit {o : Oper} {e el i : Nat} {lo hi : Option Operand} (hu : und (tabOf P N) e = some (.slice el)) {z : Nat} (hel : sizeT (tabOf P N) el = some z) (h0 : 0 < z) (hv : t.get i = .lit (.slice none 0 0))
    (hl : lo = none ∨ ∃ x, lo = some x ∧ evalA t x = some (.lit (.int .i64 0))) (hh : hi = none ∨ ∃ x, hi = some x ∧ evalA t x = some (.lit (.int .i64 0))) (ho : o.op = .slice e (.tmp i) lo hi none) :
    litOp P o t = some (.val (.lit (.slice none 0 0))) := by
  obtain ⟨d, op, ty, ps, af, g⟩ := o
  simp only at ho
  subst ho
  have hinfo : (P.info? el).isSome = true := by
    cases hq : P.info? el with
    | some ii => rfl
    | none =>
      simp only [sizeT, Option.map_eq_some_iff, tabOf] at hel
      obtain ⟨ti, h1, h2⟩ := hel
      cases hN : N.has el with
      | false => rw [hN] at h1; cases h1
      | true =>
        rw [hN] at h1
        simp only [cond_true, Option.some.injEq] at h1
        rw [← h1] at h2
        simp only [tiOf, hq] at h2
        simp at h2
        omega
  have e0 : litEnv t (.tmp i) = .slice none 0 0 := by simp [litEnv, ev_tmp, hv, toVal]
  have key := nil_slice (P := P) (lo := lo.map (litEnv t)) (hi := hi.map (litEnv t)) (und_tab_sl hu) (by
    rcases hl with rfl | ⟨x, rfl, hx⟩
    · exact .inl rfl
    · exact .inr (by simp [litEnv, hx, toVal])) (by
    rcases hh with rfl | ⟨x, rfl, hx⟩
    · exact .inl rfl
    · exact .inr (by simp [litEnv, hx, toVal])) hinfo
  unfold litOp
  rw [if_pos]
  · show ofPR (pur P (do let x ← Instr.sliceAt e (litEnv t (.tmp i)) (lo.map (litEnv t)) (hi.map (litEnv t)) none; pure (Next.value x))) = _
    rw [e0, key]
    rfl
  · rcases hl with rfl | ⟨x, rfl, hx⟩ <;> rcases hh with rfl | ⟨y, rfl, hy⟩ <;> simp [notSelect, Op.operands, litAll, ev_tmp, hv, toVal, *]
theorem a_sl_hi {e i : Nat} {hi : Operand} (hs : isSl (t.get i) = true) (hT : szOk (tabOf P N) e = true) (hc : CapOk (szE (tabOf P N) e) (t.get i)) :
    aop P (tabOf P N) ⟨d, .slice e (.tmp i) none (some hi) none, ty, ps, af, g⟩ t h = (match evalA t hi with
      | some (.lit (.int .i64 n)) => slM h (t.get i) (szE (tabOf P N) e) 0 n (aSlR P (tabOf P N) ⟨d, .slice e (.tmp i) none (some hi) none, ty, ps, af, g⟩ t h e (.tmp i) none (some hi) none)
      | _ => aSlR P (tabOf P N) ⟨d, .slice e (.tmp i) none (some hi) none, ty, ps, af, g⟩ t h e (.tmp i) none (some hi) none) := by
  have h0 : aop P (tabOf P N) ⟨d, .slice e (.tmp i) none (some hi) none, ty, ps, af, g⟩ t h = aSlice P (tabOf P N) ⟨d, .slice e (.tmp i) none (some hi) none, ty, ps, af, g⟩ t h e (.tmp i) none (some hi) none := rfl
  rw [h0]
  split
  · rename_i n hn
    unfold slM
    split
    · rename_i hb
      obtain ⟨m, ⟨hv, hm⟩ | ⟨b, off, cap, hv⟩⟩ := SlN.of hs
      · obtain ⟨el, z, hu, hz, hzz, h0⟩ := szOk_out hT
        have hl : (lenD (t.get i)) = 0 := by rw [hv]; rfl
        obtain rfl : n = 0 := by omega
        unfold aSlice orLit
        rw [nilSl_lit hu hz h0 hv (.inl rfl) (.inr ⟨_, rfl, hn⟩) rfl, hv]
        rfl
      · unfold aSlice orLit
        rw [sl_none (i := i) (by simp [Op.operands]) hv]
        simp only [ev_tmp, optNat, hn, natA_int, if_pos hb.2.1, Option.map_some]
        have hl : (lenD (t.get i)) = m := by rw [hv]; rfl
        exact sl1_ok hT hc hv rfl rfl (by simp) (by simp; omega)
    · rfl
  · rfl
theorem a_sl_lo {e i : Nat} {lo : Operand} (hs : isSl (t.get i) = true) (hT : szOk (tabOf P N) e = true) (hc : CapOk (szE (tabOf P N) e) (t.get i)) :
    aop P (tabOf P N) ⟨d, .slice e (.tmp i) (some lo) none none, ty, ps, af, g⟩ t h = (match evalA t lo with
      | some (.lit (.int .i64 n)) => slM h (t.get i) (szE (tabOf P N) e) n (lenD (t.get i)) (aSlR P (tabOf P N) ⟨d, .slice e (.tmp i) (some lo) none none, ty, ps, af, g⟩ t h e (.tmp i) (some lo) none none)
      | _ => aSlR P (tabOf P N) ⟨d, .slice e (.tmp i) (some lo) none none, ty, ps, af, g⟩ t h e (.tmp i) (some lo) none none) := by
  have h0 : aop P (tabOf P N) ⟨d, .slice e (.tmp i) (some lo) none none, ty, ps, af, g⟩ t h = aSlice P (tabOf P N) ⟨d, .slice e (.tmp i) (some lo) none none, ty, ps, af, g⟩ t h e (.tmp i) (some lo) none none := rfl
  rw [h0]
  split
  · rename_i n hn
    unfold slM
    split
    · rename_i hb
      obtain ⟨m, ⟨hv, hm⟩ | ⟨b, off, cap, hv⟩⟩ := SlN.of hs
      · obtain ⟨el, z, hu, hz, hzz, h0⟩ := szOk_out hT
        have hl : (lenD (t.get i)) = 0 := by rw [hv]; rfl
        obtain rfl : n = 0 := by omega
        unfold aSlice orLit
        rw [nilSl_lit hu hz h0 hv (.inr ⟨_, rfl, hn⟩) (.inl rfl) rfl, hv]
        rfl
      · unfold aSlice orLit
        rw [sl_none (i := i) (by simp [Op.operands]) hv]
        simp only [ev_tmp, optNat, hn, natA_int, if_pos hb.1, Option.map_some]
        have hl : (lenD (t.get i)) = m := by rw [hv]; rfl
        rw [Int.toNat_natCast]
        exact sl1_ok hT hc hv rfl (by rw [hl]; rfl) (by simp; omega) (by omega)
    · rfl
  · rfl
theorem a_sl_lohi {e i : Nat} {lo hi : Operand} (hs : isSl (t.get i) = true) (hT : szOk (tabOf P N) e = true) (hc : CapOk (szE (tabOf P N) e) (t.get i)) :
    aop P (tabOf P N) ⟨d, .slice e (.tmp i) (some lo) (some hi) none, ty, ps, af, g⟩ t h = (match evalA t lo, evalA t hi with
      | some (.lit (.int .i64 n)), some (.lit (.int .i64 m)) => slM h (t.get i) (szE (tabOf P N) e) n m (aSlR P (tabOf P N) ⟨d, .slice e (.tmp i) (some lo) (some hi) none, ty, ps, af, g⟩ t h e (.tmp i) (some lo) (some hi) none)
      | _, _ => aSlR P (tabOf P N) ⟨d, .slice e (.tmp i) (some lo) (some hi) none, ty, ps, af, g⟩ t h e (.tmp i) (some lo) (some hi) none) := by
  have h0 : aop P (tabOf P N) ⟨d, .slice e (.tmp i) (some lo) (some hi) none, ty, ps, af, g⟩ t h = aSlice P (tabOf P N) ⟨d, .slice e (.tmp i) (some lo) (some hi) none, ty, ps, af, g⟩ t h e (.tmp i) (some lo) (some hi) none := rfl
  rw [h0]
  split
  · rename_i n k hn hk
    unfold slM
    split
    · rename_i hb
      obtain ⟨m, ⟨hv, hm⟩ | ⟨b, off, cap, hv⟩⟩ := SlN.of hs
      · obtain ⟨el, z, hu, hz, hzz, h0⟩ := szOk_out hT
        have hl : (lenD (t.get i)) = 0 := by rw [hv]; rfl
        obtain rfl : n = 0 := by omega
        obtain rfl : k = 0 := by omega
        unfold aSlice orLit
        rw [nilSl_lit hu hz h0 hv (.inr ⟨_, rfl, hn⟩) (.inr ⟨_, rfl, hk⟩) rfl, hv]
        rfl
      · unfold aSlice orLit
        rw [sl_none (i := i) (by simp [Op.operands]) hv]
        have hk0 : 0 ≤ k := by omega
        simp only [ev_tmp, optNat, hn, hk, natA_int, if_pos hb.1, if_pos hk0, Option.map_some]
        have hl : (lenD (t.get i)) = m := by rw [hv]; rfl
        exact sl1_ok hT hc hv rfl rfl (by simp; omega) (by simp; omega)
    · rfl
  · rfl
/-- Held against nil. -/
def isNil : AV → Bool
  | .lit (.slice none 0 0) => true
  | _ => false
/-- A slice held against nil. -/
theorem a_eqnil {e f : TypeId} {i : Nat} (hs : isSl (t.get i) = true) (hT : isSlT T e = true) (hN : pur P (binOp .eql e (.slice none 0 0) (.slice none 0 0)) = some (.ok (.bool true))) :
    aop P T ⟨d, .binOp .eql e (.tmp i) (.const (.slice none 0 0)) f, ty, ps, af, g⟩ t h = some (.val (.lit (.bool (isNil (t.get i)))), h) := by
  obtain ⟨el, hu⟩ := isSlT_out hT
  rw [a_bin]
  obtain ⟨n, ⟨hv, _⟩ | ⟨b, off, cap, hv⟩⟩ := SlN.of hs
  · unfold aBin
    rw [ev_tmp, hv, ev_nils]
    simp only [hN]
    rfl
  · have := binR_nil_eql (P := P) (T := T) (t := t) (h := h) (d := d) (ty := ty) (ps := ps) (af := af) (g := g) (e := e) (f := f) (i := i)
    rw [hu, hv] at this
    unfold aBinR at this
    rw [this, hv]
    rfl
theorem a_nenil {e f : TypeId} {i : Nat} (hs : isSl (t.get i) = true) (hT : isSlT T e = true) (hN : pur P (binOp .neq e (.slice none 0 0) (.slice none 0 0)) = some (.ok (.bool false))) :
    aop P T ⟨d, .binOp .neq e (.tmp i) (.const (.slice none 0 0)) f, ty, ps, af, g⟩ t h = some (.val (.lit (.bool (!isNil (t.get i)))), h) := by
  obtain ⟨el, hu⟩ := isSlT_out hT
  rw [a_bin]
  obtain ⟨n, ⟨hv, _⟩ | ⟨b, off, cap, hv⟩⟩ := SlN.of hs
  · unfold aBin
    rw [ev_tmp, hv, ev_nils]
    simp only [hN]
    rfl
  · have := binR_nil_neq (P := P) (T := T) (t := t) (h := h) (d := d) (ty := ty) (ps := ps) (af := af) (g := g) (e := e) (f := f) (i := i)
    rw [hu, hv] at this
    unfold aBinR at this
    rw [this, hv]
    rfl
theorem oneOf_0 : oneOf [] = .tup [] := rfl
theorem oneOf_1 {a : AV} : oneOf [a] = a := rfl
theorem oneOf_2 {a b : AV} : oneOf [a, b] = .tup [a, b] := rfl
theorem oneOf_3 {a b c : AV} : oneOf [a, b, c] = .tup [a, b, c] := rfl
/-! Numbers. -/
theorem nn0 (n : Nat) : ((0 : Int) ≤ (n : Int)) = True := by simp
theorem und_out {t : TypeId} {dd : TypeDesc} (hu : und (tabOf P N) t = some dd) (hne : dd ≠ .invalid) : P.underlying t = some dd := by
  have := und_tab hu
  cases hq : P.underlying t with
  | none => rw [hq] at this; exact absurd this.symm hne
  | some x => rw [hq] at this; exact congrArg some this
def boolM (h : AH) (a b : Bool) (r : AR) : BinOp → Option TypeDesc → AR
  | .eql, some .bool => some (.val (.lit (.bool (a == b))), h)
  | .neq, some .bool => some (.val (.lit (.bool (!(a == b)))), h)
  | _, _ => r
theorem boolM_eql {a b : Bool} {r : AR} : boolM h a b r .eql (some .bool) = some (.val (.lit (.bool (a == b))), h) := rfl
theorem boolM_neq {a b : Bool} {r : AR} : boolM h a b r .neq (some .bool) = some (.val (.lit (.bool (!(a == b)))), h) := rfl
theorem pur_beq {e : TypeId} {a b : Bool} (hP : P.underlying e = some .bool) : pur P (binOp .eql e (.bool a) (.bool b)) = some (.ok (.bool (a == b))) := by
  show pur P (((match P.underlying e with | some d => pure d | none => stuck "no such type") >>= _) >>= _) = _
  rw [hP]
  rfl
theorem pur_bne {e : TypeId} {a b : Bool} (hP : P.underlying e = some .bool) : pur P (binOp .neq e (.bool a) (.bool b)) = some (.ok (.bool (!(a == b)))) := by
  show pur P (((match P.underlying e with | some d => pure d | none => stuck "no such type") >>= _) >>= _) = _
  rw [hP]
  rfl
/-- What two plain values come to. -/
theorem a_bin2 {op : BinOp} {e f : TypeId} {i : Nat} {y : Operand} : aBin P (tabOf P N) ⟨d, .binOp op e (.tmp i) y f, ty, ps, af, g⟩ t h op e (.tmp i) y = (match t.get i, evalA t y with
   | .lit (.int k a), some (.lit (.int k' b)) => ofPV h (pur P (binOp op e (.int k a) (.int k' b)))
   | .lit (.bool a), some (.lit (.bool b)) => boolM h a b (aBinR P (tabOf P N) ⟨d, .binOp op e (.tmp i) y f, ty, ps, af, g⟩ t h op e (.tmp i) y) op (und (tabOf P N) e)
   | .lit (.string a), some (.lit (.string b)) => ofPV h (pur P (binOp op e (.string a) (.string b)))
   | _, _ => aBinR P (tabOf P N) ⟨d, .binOp op e (.tmp i) y f, ty, ps, af, g⟩ t h op e (.tmp i) y) := by
  split
  · rename_i k a k' b h1 h2
    exact bin_ints (by rw [ev_tmp, h1]) h2
  · rename_i a b h1 h2
    unfold boolM
    split
    · rename_i hu
      unfold aBin
      rw [ev_tmp, h1, h2]
      simp only [pur_beq (und_out hu (by simp))]
      rfl
    · rename_i hu
      unfold aBin
      rw [ev_tmp, h1, h2]
      simp only [pur_bne (und_out hu (by simp))]
      rfl
    · rfl
  · rename_i a b h1 h2
    unfold aBin
    rw [ev_tmp, h1, h2]
  · rfl
theorem a_bin_tt {op : BinOp} {e f : TypeId} {i j : Nat} : aop P T ⟨d, .binOp op e (.tmp i) (.tmp j) f, ty, ps, af, g⟩ t h = aBin P T ⟨d, .binOp op e (.tmp i) (.tmp j) f, ty, ps, af, g⟩ t h op e (.tmp i) (.tmp j) := rfl
theorem a_bin_ti {op : BinOp} {e f : TypeId} {i : Nat} {k : IntKind} {n : Int} : aop P T ⟨d, .binOp op e (.tmp i) (.const (.int k n)) f, ty, ps, af, g⟩ t h = aBin P T ⟨d, .binOp op e (.tmp i) (.const (.int k n)) f, ty, ps, af, g⟩ t h op e (.tmp i) (.const (.int k n)) := rfl
theorem a_bin_ts {op : BinOp} {e f : TypeId} {i : Nat} {n : ByteArray} : aop P T ⟨d, .binOp op e (.tmp i) (.const (.string n)) f, ty, ps, af, g⟩ t h = aBin P T ⟨d, .binOp op e (.tmp i) (.const (.string n)) f, ty, ps, af, g⟩ t h op e (.tmp i) (.const (.string n)) := rfl
theorem a_bin_it {op : BinOp} {e f : TypeId} {j : Nat} {k : IntKind} {n : Int} : aop P T ⟨d, .binOp op e (.const (.int k n)) (.tmp j) f, ty, ps, af, g⟩ t h = (match t.get j with
   | .lit (.int k' b) => ofPV h (pur P (binOp op e (.int k n) (.int k' b)))
   | _ => aBin P T ⟨d, .binOp op e (.const (.int k n)) (.tmp j) f, ty, ps, af, g⟩ t h op e (.const (.int k n)) (.tmp j)) := by
  rw [a_bin]
  split
  · rename_i k' b hb
    exact bin_ints rfl (by rw [ev_tmp, hb])
  · rfl
theorem un_not {b : Bool} : pur P (Op.unary .not (.bool b)) = some (.ok (.bool !b)) := rfl
theorem un_neg {k : IntKind} {a : Int} : pur P (Op.unary .neg (.int k a)) = some (.ok (.int k (k.wrap (0 - a)))) := rfl
theorem lit2 {o : Oper} {x y : Operand} {a b c : Value} (hx : evalA t x = some (.lit a)) (hy : evalA t y = some (.lit b)) (hops : o.op.operands = #[x, y]) (hn : notSelect o.op = true)
    (he : pur P (execOp (litEnv t) o) = some (.ok (.value c))) (hc : ofVal c = some (.lit c)) : litOp P o t = some (.val (.lit c)) := by
  unfold litOp
  rw [if_pos (by rw [hops, hn]; simp [litAll, hx, hy, toVal]), he]
  simp [ofPR, hc]
theorem a_min {x y : Operand} {t1 t2 : Nat} : aop P T ⟨d, .call ⟨.builtin .min, #[x, y], #[t1, t2]⟩, ty, ps, af, g⟩ t h = (match evalA t x, evalA t y with
    | some (.lit (.int .i64 a)), some (.lit (.int .i64 b)) => some (.val (.lit (.int .i64 (if b < a then b else a))), h)
    | _, _ => aCall P T ⟨d, .call ⟨.builtin .min, #[x, y], #[t1, t2]⟩, ty, ps, af, g⟩ t h ⟨.builtin .min, #[x, y], #[t1, t2]⟩) := by
  split
  · rename_i a b hx hy
    rw [a_call]
    have ex : litEnv t x = .int .i64 a := by simp [litEnv, hx, toVal]
    have ey : litEnv t y = .int .i64 b := by simp [litEnv, hy, toVal]
    have hl := lit2 (P := P) (o := ⟨d, .call ⟨.builtin .min, #[x, y], #[t1, t2]⟩, ty, ps, af, g⟩) (c := .int .i64 (if b < a then b else a)) hx hy (by simp [Op.operands, Call.operands]) rfl (by
      simp only [execOp, resolve]
      simp [invoke, builtin, Builtin.min_, ex, ey]
      rfl) rfl
    simp only [aCall, aBuiltin, orLit, hl]
  · rfl
theorem a_max {x y : Operand} {t1 t2 : Nat} : aop P T ⟨d, .call ⟨.builtin .max, #[x, y], #[t1, t2]⟩, ty, ps, af, g⟩ t h = (match evalA t x, evalA t y with
    | some (.lit (.int .i64 a)), some (.lit (.int .i64 b)) => some (.val (.lit (.int .i64 (if a < b then b else a))), h)
    | _, _ => aCall P T ⟨d, .call ⟨.builtin .max, #[x, y], #[t1, t2]⟩, ty, ps, af, g⟩ t h ⟨.builtin .max, #[x, y], #[t1, t2]⟩) := by
  split
  · rename_i a b hx hy
    rw [a_call]
    have ex : litEnv t x = .int .i64 a := by simp [litEnv, hx, toVal]
    have ey : litEnv t y = .int .i64 b := by simp [litEnv, hy, toVal]
    have hl := lit2 (P := P) (o := ⟨d, .call ⟨.builtin .max, #[x, y], #[t1, t2]⟩, ty, ps, af, g⟩) (c := .int .i64 (if a < b then b else a)) hx hy (by simp [Op.operands, Call.operands]) rfl (by
      simp only [execOp, resolve]
      simp [invoke, builtin, Builtin.max_, ex, ey]
      rfl) rfl
    simp only [aCall, aBuiltin, orLit, hl]
  · rfl
/-! Calls. -/
theorem a_callv {f : Operand} {xs : Array Operand} {ts : Array TypeId} : aop P T ⟨d, .call ⟨.value f, xs, ts⟩, ty, ps, af, g⟩ t h = (match evalA t f, evals t xs.toList with
    | some f, some args => (callA P f args).map (·, h)
    | _, _ => none) := rfl
theorem a_append {x y : Operand} {t1 t2 : TypeId} : aop P T ⟨d, .call ⟨.builtin .append, #[x, y], #[t1, t2]⟩, ty, ps, af, g⟩ t h = (match evalA t x, evalA t y with
    | some s, some x => (appendA T h t1 t2 s x).map fun r => (.val r.1, r.2)
    | _, _ => aCall P T ⟨d, .call ⟨.builtin .append, #[x, y], #[t1, t2]⟩, ty, ps, af, g⟩ t h ⟨.builtin .append, #[x, y], #[t1, t2]⟩) := by
  split
  · rename_i s x hs hx
    rw [a_call]
    simp only [aCall, aBuiltin, evals, hs, hx]
  · rfl
/-- What is appended, the heap behind it by name. -/
theorem WOp_app {E : FE} {o : Oper} {l : List AI} {K : KK} {t1 t2 : TypeId} {s x : AV} {Q : AV → AH → Prop} (hq : ∃ s' h', appendA T h t1 t2 s x = some (s', h') ∧ Q s' h') (hk : ∀ s' h', Q s' h' → WB P T S E (setTmp t o.dst s') l h' K) :
    WOp P T S E t o l K ((appendA T h t1 t2 s x).map fun r => (.val r.1, r.2)) := by
  obtain ⟨s', h', ha, hQ⟩ := hq
  rw [ha]
  exact hk s' h' hQ
theorem WOpD_app {E : FE} {ops : Array Oper} {M : MO ops} {i : Nat} {o : Oper} {l : List Nat} {rs : List (Nat × RD × AV)} {k : List AI} {K : KK} {t1 t2 : TypeId} {s x : AV} {Q : AV → AH → Prop} (hq : ∃ s' h', appendA T h t1 t2 s x = some (s', h') ∧ Q s' h') (hk : ∀ s' h', Q s' h' → WDM P T S E (setTmp t o.dst s') M l rs k h' K) :
    WOpD P T S E t M i o l rs k K .acts ((appendA T h t1 t2 s x).map fun r => (.val r.1, r.2)) := by
  obtain ⟨s', h', ha, hQ⟩ := hq
  rw [ha]
  exact hk s' h' hQ
theorem tri_put {α : Type} (d : α) : ∀ (f : Nat) (t : Tri α) (k : Nat) (x y : α), Tri.put d f (Tri.put d f t k x) k y = Tri.put d f t k y
  | 0, _, _, _, _ => rfl
  | f + 1, t, k, x, y => by
    simp only [Tri.put]
    cases Nat.ble k 1 with
    | true => simp only [cond_true, Tri.lt, Tri.rt]
    | false =>
      cases Nat.beq (k % 2) 0 with
      | true => simp only [cond_true, cond_false, Tri.lt, Tri.rt, Tri.top, tri_put d f]
      | false => simp only [cond_false, Tri.lt, Tri.rt, Tri.top, tri_put d f]
theorem put_push {h : AH} {x y : AB} : (h.push x).put h.n y = h.push y := by
  unfold AH.put AH.push vPut vPush
  simp only
  rw [show Nat.blt h.n (h.n + 1) = true from Nat.blt_eq.mpr (Nat.lt_succ_self _), cond_true, tri_put]
section
variable {E : FE} {ops : Array Oper} {M : MO ops} {i : Nat} {l : List Nat} {rs : List (Nat × RD × AV)} {k : List AI} {K : KK} {o : Oper} {v : AV} {h1 : AH} {f : FuncId} {a : List AV}
theorem WOpD_av : WOpD P T S E t M i o l rs k K .acts (some (.val v, h1)) = WDM P T S E (setTmp t o.dst v) M l rs k h1 K := rfl
theorem WOpD_ae : WOpD P T S E t M i o l rs k K .acts (some (.enter f a, h1)) = WC P T S f a h1 fun v h2 => WDM P T S E (setTmp t o.dst v) M l rs k h2 K := rfl
theorem WOpD_s : WOpD P T S E t M i o l rs k K .still (some (.val v, h1)) = WDM P T S E (setTmp t o.dst v) M l rs k h1 K := rfl
theorem WOpD_l : WOpD P T S E t M i o l rs k K .alloc (some (.val v, h1)) = WDM P T S E (setTmp t o.dst v) M l rs k h1 K := rfl
theorem WOpD_r : WOpD P T S E t M i o l rs k K .reads (some (.val v, h1)) = (match rdOf o t with
    | some rd => WDM P T S E (setTmp t o.dst v) M l ((i, rd, v) :: rs) k h1 K
    | none => (litOp P o t).isSome = true ∧ WDM P T S E (setTmp t o.dst v) M l rs k h1 K) := rfl
end
theorem WRegD_t {E : FE} {ops : Array Oper} {M : MO ops} {i : Nat} {l : List Nat} {rs : List (Nat × RD × AV)} {k : List AI} {K : KK} {o : Oper} : WRegD P T S E t M i l rs k h K o (some true) = WOpD P T S E t M i o l rs k K (kindOf T o) (aop P T o t h) := rfl
theorem WRegD_f {E : FE} {ops : Array Oper} {M : MO ops} {i : Nat} {l : List Nat} {rs : List (Nat × RD × AV)} {k : List AI} {K : KK} {o : Oper} : WRegD P T S E t M i l rs k h K o (some false) = WDM P T S E (setTmp t o.dst aundef) M l rs k h K := rfl
theorem waits_eq {n M i k : Nat} : waits n M i k = decide ((M >>> (n * i + k)) % 2 = 1) := by
  unfold waits
  by_cases h : (M >>> (n * i + k)) % 2 = 1
  · rw [h]; rfl
  · rw [decide_eq_false h]
    exact Bool.eq_false_iff.mpr fun hh => h (Nat.eq_of_beq_eq_true hh)
theorem dropR_nil {n m i : Nat} : dropR n m i [] = [] := rfl
theorem dropR_cons {n m i k : Nat} {r : RD} {v : AV} {rs : List (Nat × RD × AV)} : dropR n m i ((k, r, v) :: rs) = bif waits n m i k then dropR n m i rs else (k, r, v) :: dropR n m i rs := by
  unfold dropR
  rw [List.filter_cons]
  cases waits n m i k <;> rfl
theorem ld_at {h : AH} {b : Nat} {l : List AV} {e' : TypeId} (hb : h.at b = some (.cells l e')) (e : TypeId) (off : Nat) : loadA T h e b off = ldL T e l off := ld_own hb
/-! Structs and arrays that are built. -/
def placesOf (T : TT) (t : TypeId) : Option (List (Nat × Nat)) := match und T t with
  | some (.struct fs) => places T fs.toList
  | _ => none
def bdM (h : AH) : Option AV → Option (List (Nat × Nat)) → Option (List (Nat × AV)) → AR
  | some (.agg z), some pl, some ps => val h ((fillA (fun i => pl[i]?) z ps).map .agg)
  | _, _, _ => none
theorem bd_eq {e : TypeId} {p : Array (Nat × Operand)} (hp : (placesOf T e).isSome = true) : aop P T ⟨d, .build e p, ty, ps, af, g⟩ t h = bdM h (zeroT T e) (placesOf T e) (evalParts t p.toList) := by
  obtain ⟨pl, hp⟩ := Option.isSome_iff_exists.1 hp
  rw [hp]
  rw [a_build]
  unfold aBuild bdM
  unfold placesOf at hp
  split at hp
  · rename_i fs hu
    cases evalParts t p.toList with
    | none => cases zeroT T e with
      | none => rfl
      | some z => cases z <;> rfl
    | some l =>
      simp only
      unfold buildA
      rw [hu]
      cases zeroT T e with
      | none => rfl
      | some z => cases z <;> first | rfl | (simp only [hp])
  · cases hp
def arrOf (T : TT) (t : TypeId) : Option Nat := match und T t with
  | some (.array _ e) => sizeT T e
  | _ => none
theorem bda_eq {e : TypeId} {p : Array (Nat × Operand)} (hp : (arrOf T e).isSome = true) : aop P T ⟨d, .build e p, ty, ps, af, g⟩ t h = (match zeroT T e, evalParts t p.toList with
    | some (.agg z), some l => val h ((fillA (fun i => some (i * (arrOf T e).getD 0, (arrOf T e).getD 0)) z l).map .agg)
    | _, _ => none) := by
  obtain ⟨n, hp⟩ := Option.isSome_iff_exists.1 hp
  rw [hp]
  simp only [Option.getD_some]
  rw [a_build]
  unfold aBuild
  unfold arrOf at hp
  split at hp
  · rename_i m el hu
    cases evalParts t p.toList with
    | none => cases zeroT T e with
      | none => rfl
      | some z => cases z <;> rfl
    | some l =>
      simp only
      unfold buildA
      rw [hu]
      cases zeroT T e with
      | none => rfl
      | some z => cases z <;> first | rfl | (simp only [hp])
  · cases hp
/-! Reads that are held. -/
theorem hold_nil : hold T h [] = true := rfl
theorem hold_cons {i : Nat} {r : RD} {v : AV} {rs : List (Nat × RD × AV)} : hold T h ((i, r, v) :: rs) = ((match rdA T h r with | some u => AV.same 8 u v | none => false) && hold T h rs) := rfl
theorem same_int {n : Nat} {k : IntKind} {a : Int} : AV.same n (.lit (.int k a)) (.lit (.int k a)) = true := by cases n <;> cases k <;> simp [AV.same, scalEq]
theorem same_bool {n : Nat} {a : Bool} : AV.same n (.lit (.bool a)) (.lit (.bool a)) = true := by cases n <;> simp [AV.same, scalEq]
theorem same_str {n : Nat} {a : ByteArray} : AV.same n (.lit (.string a)) (.lit (.string a)) = true := by cases n <;> simp [AV.same, scalEq]
theorem same_sl {n : Nat} {v : AV} (hv : isSl v = true) : AV.same n v v = true := by
  obtain ⟨m, ⟨rfl, _⟩ | ⟨b, off, cap, rfl⟩⟩ := SlN.of hv
  · cases n <;> simp [AV.same, scalEq]
  · cases n <;> cases cap <;> simp [AV.same, capEq]
theorem same_agg {n : Nat} {l m : List AV} : AV.same (n + 1) (.agg l) (.agg m) = (l.length == m.length && (l.zip m).all fun (x, y) => AV.same n x y) := by simp [AV.same]
theorem same_one {n b i : Nat} : AV.same n (.ptr b i) (.ptr b i) = true := by cases n <;> simp [AV.same]
/-- Two ways that meet. -/
theorem WB_cut {E : FE} {k : List AI} {K : KK} {a : Code} (Inv : TM → AH → Prop) (ha : ∀ k' K', (∀ t' h', Inv t' h' → WB P T S E t' k' h' K') → WB P T S E t (.code a :: k') h K') (hk : ∀ t' h', Inv t' h' → WB P T S E t' k h' K) : WB P T S E t (.code a :: k) h K := ha k K hk
/-- A loop that counts. -/
theorem WB_for {E : FE} {k : List AI} {K : KK} {c : Code} (n : Nat) (Inv : Nat → TM → AH → Prop)
    (step : ∀ i t h, i < n → ((i : Int) < (n : Int)) = True → Inv i t h → (∀ t' h', Inv (i + 1) t' h' → WB P T S E t' (.lp c :: k) h' K) → WB P T S E t (.code c :: .lp c :: k) h K)
    (leave : ∀ t h, ((n : Int) < (n : Int)) = False → Inv n t h → WB P T S E t (.code c :: .lp c :: k) h K) : ∀ t h, Inv 0 t h → WB P T S E t (.lp c :: k) h K := by
  intro t h h0
  refine WB_ind (fun (i : Nat) t h => i ≤ n ∧ Inv i t h) (fun i => n - i) ?_ 0 t h ⟨Nat.zero_le _, h0⟩
  rintro i t h ⟨hi, hI⟩ ih
  by_cases hlt : i < n
  · exact step i t h hlt (by simp; omega) hI fun t' h' hI' => ih (i + 1) t' h' ⟨hlt, hI'⟩ (by omega)
  · obtain rfl : i = n := by omega
    exact leave t h (by simp) hI
end
end Go.Proofs.YtkgbeihcepociaaDoor.Ex
end

section

namespace Go.Proofs.YtkgbeihcepociaaDoor.Ex
open Go
set_option maxRecDepth 100000 in
theorem tabA : (fun (f : Nat → Option Bool) => f 1 = some false ∧ f 2 = some false ∧ f 3 = some false ∧ f 4 = some false ∧ f 5 = some false ∧ f 6 = some false ∧ f 7 = some true ∧ f 8 = some true ∧ f 9 = some false ∧ f 10 = some false ∧ f 11 = some false ∧ f 12 = some false ∧ f 13 = some true ∧ f 14 = some true ∧ f 15 = some false ∧ f 16 = some false ∧ f 17 = some false ∧ f 18 = some true ∧ f 19 = some true ∧ f 20 = some false ∧ f 21 = some false ∧ f 22 = some false ∧ f 23 = some false ∧ f 24 = some false ∧ f 25 = some true ∧ f 26 = some true ∧ f 27 = some false ∧ f 28 = some false ∧ f 29 = some false ∧ f 30 = some false ∧ f 31 = some false ∧ f 32 = some false ∧ f 33 = some false ∧ f 34 = some false ∧ f 35 = some false ∧ f 36 = some false ∧ f 37 = some false ∧ f 38 = some false ∧ f 39 = some false ∧ f 40 = some false ∧ f 41 = some true ∧ f 42 = some true ∧ f 44 = some false ∧ f 45 = some false ∧ f 46 = some true ∧ f 47 = some true ∧ f 48 = some false ∧ f 49 = some false ∧ f 50 = some false ∧ f 51 = some true ∧ f 52 = some true ∧ f 53 = some false ∧ f 54 = some false ∧ f 55 = some false ∧ f 56 = some false ∧ f 57 = some false ∧ f 59 = some false ∧ f 60 = some true ∧ f 61 = some false ∧ f 62 = some false ∧ f 63 = some false ∧ f 64 = some false ∧ f 65 = some false ∧ f 66 = some false ∧ f 67 = some false ∧ f 69 = some false ∧ f 70 = some false ∧ f 71 = some false ∧ f 72 = some false ∧ f 73 = some false ∧ f 74 = some false ∧ f 75 = some false ∧ f 76 = some false ∧ f 77 = some false ∧ f 78 = some false ∧ f 79 = some false ∧ f 80 = some true ∧ f 81 = some true ∧ f 82 = some false ∧ f 83 = some false ∧ f 84 = some false ∧ f 85 = some false ∧ f 86 = some false ∧ f 87 = some false ∧ f 88 = some false ∧ f 90 = some false ∧ f 91 = some false ∧ f 92 = some false ∧ f 93 = some false ∧ f 94 = some false ∧ f 95 = some false ∧ f 96 = some false ∧ f 97 = some false ∧ f 98 = some false ∧ f 99 = some false ∧ f 100 = some true ∧ f 101 = some true ∧ f 102 = some true ∧ f 103 = some false ∧ f 104 = some false ∧ f 106 = some false ∧ f 107 = some false ∧ f 108 = some false ∧ f 109 = some false ∧ f 110 = some false ∧ f 111 = some false ∧ f 112 = some false ∧ f 113 = some true ∧ f 114 = some true ∧ f 115 = some true ∧ f 116 = some true ∧ f 117 = some true ∧ f 118 = some true ∧ f 119 = some true ∧ f 120 = some true ∧ f 121 = some true ∧ f 122 = some true ∧ f 123 = some true ∧ f 124 = some true ∧ f 125 = some true ∧ f 126 = some true ∧ f 127 = some true ∧ f 128 = some true ∧ f 129 = some true ∧ f 130 = some false ∧ f 131 = some false ∧ f 132 = some false ∧ f 133 = some false ∧ f 134 = some true ∧ f 135 = some true ∧ f 136 = some false ∧ f 138 = some false ∧ f 139 = some true ∧ f 140 = some true ∧ f 141 = some false ∧ f 142 = some true ∧ f 143 = some true ∧ f 144 = some true ∧ f 145 = some true ∧ f 146 = some false ∧ f 147 = some true ∧ f 148 = some true ∧ f 149 = some true ∧ f 150 = some true ∧ f 151 = some true ∧ f 152 = some false ∧ f 153 = some false ∧ f 154 = some false ∧ f 155 = some false ∧ f 156 = some false ∧ f 157 = some false ∧ f 158 = some false ∧ f 159 = some true ∧ f 160 = some true ∧ f 161 = some true ∧ f 162 = some true ∧ f 163 = some false) (isAggT (tabOf Tryd.prog NT0)) := by (repeat' apply And.intro) <;> kernel_rfl
set_option maxRecDepth 100000 in
theorem tabS : (fun (f : Nat → Option Nat) => f 1 = some 1 ∧ f 2 = some 1 ∧ f 3 = some 1 ∧ f 4 = some 1 ∧ f 5 = some 1 ∧ f 6 = some 1 ∧ f 7 = some 4 ∧ f 8 = some 4 ∧ f 9 = some 1 ∧ f 10 = some 1 ∧ f 11 = some 1 ∧ f 12 = some 1 ∧ f 13 = some 2 ∧ f 14 = some 2 ∧ f 15 = some 1 ∧ f 16 = some 1 ∧ f 17 = some 1 ∧ f 18 = some 1 ∧ f 19 = some 1 ∧ f 20 = some 1 ∧ f 21 = some 1 ∧ f 22 = some 1 ∧ f 23 = some 1 ∧ f 24 = some 1 ∧ f 25 = some 5 ∧ f 26 = some 5 ∧ f 27 = some 1 ∧ f 28 = some 1 ∧ f 29 = some 1 ∧ f 30 = some 1 ∧ f 31 = some 1 ∧ f 32 = some 1 ∧ f 33 = some 1 ∧ f 34 = some 1 ∧ f 35 = some 1 ∧ f 36 = some 1 ∧ f 37 = some 1 ∧ f 38 = some 1 ∧ f 39 = some 1 ∧ f 40 = some 1 ∧ f 41 = some 6 ∧ f 42 = some 6 ∧ f 44 = some 1 ∧ f 45 = some 1 ∧ f 46 = some 4 ∧ f 47 = some 4 ∧ f 48 = some 1 ∧ f 49 = some 1 ∧ f 50 = some 1 ∧ f 51 = some 8 ∧ f 52 = some 8 ∧ f 53 = some 1 ∧ f 54 = some 1 ∧ f 55 = some 1 ∧ f 56 = some 1 ∧ f 57 = some 1 ∧ f 59 = some 1 ∧ f 60 = some 4 ∧ f 61 = some 1 ∧ f 62 = some 1 ∧ f 63 = some 1 ∧ f 64 = some 1 ∧ f 65 = some 1 ∧ f 66 = some 1 ∧ f 67 = some 1 ∧ f 69 = some 1 ∧ f 70 = some 1 ∧ f 71 = some 1 ∧ f 72 = some 1 ∧ f 73 = some 1 ∧ f 74 = some 1 ∧ f 75 = some 1 ∧ f 76 = some 1 ∧ f 77 = some 1 ∧ f 78 = some 1 ∧ f 79 = some 1 ∧ f 80 = some 3 ∧ f 81 = some 3 ∧ f 82 = some 1 ∧ f 83 = some 1 ∧ f 84 = some 1 ∧ f 85 = some 1 ∧ f 86 = some 1 ∧ f 87 = some 1 ∧ f 88 = some 1 ∧ f 90 = some 1 ∧ f 91 = some 1 ∧ f 92 = some 1 ∧ f 93 = some 1 ∧ f 94 = some 1 ∧ f 95 = some 1 ∧ f 96 = some 1 ∧ f 97 = some 1 ∧ f 98 = some 1 ∧ f 99 = some 1 ∧ f 100 = some 3 ∧ f 101 = some 9 ∧ f 102 = some 24 ∧ f 103 = some 1 ∧ f 104 = some 1 ∧ f 106 = some 1 ∧ f 107 = some 1 ∧ f 108 = some 1 ∧ f 109 = some 1 ∧ f 110 = some 1 ∧ f 111 = some 1 ∧ f 112 = some 1 ∧ f 113 = some 0 ∧ f 114 = some 0 ∧ f 115 = some 0 ∧ f 116 = some 1 ∧ f 117 = some 1 ∧ f 118 = some 2 ∧ f 119 = some 2 ∧ f 120 = some 2 ∧ f 121 = some 2 ∧ f 122 = some 3 ∧ f 123 = some 3 ∧ f 124 = some 256 ∧ f 125 = some 0 ∧ f 126 = some 1 ∧ f 127 = some 1 ∧ f 128 = some 260 ∧ f 129 = some 260 ∧ f 130 = some 1 ∧ f 131 = some 1 ∧ f 132 = some 1 ∧ f 133 = some 1 ∧ f 134 = some 20 ∧ f 135 = some 65 ∧ f 136 = some 1 ∧ f 138 = some 1 ∧ f 139 = some 3 ∧ f 140 = some 3 ∧ f 141 = some 1 ∧ f 142 = some 3 ∧ f 143 = some 9 ∧ f 144 = some 32 ∧ f 145 = some 64 ∧ f 146 = some 1 ∧ f 147 = some 4 ∧ f 148 = some 4 ∧ f 149 = some 0 ∧ f 150 = some 0 ∧ f 151 = some 0 ∧ f 152 = some 1 ∧ f 153 = some 1 ∧ f 154 = some 1 ∧ f 155 = some 1 ∧ f 156 = some 1 ∧ f 157 = some 1 ∧ f 158 = some 1 ∧ f 159 = some 11 ∧ f 160 = some 11 ∧ f 161 = some 4 ∧ f 162 = some 4 ∧ f 163 = some 1) (sizeT (tabOf Tryd.prog NT0)) := by (repeat' apply And.intro) <;> kernel_rfl
set_option maxRecDepth 100000 in
theorem tabB : (fun (f : Nat → Option Nat) => f 1 = some 8 ∧ f 2 = some 8 ∧ f 3 = some 8 ∧ f 4 = some 1 ∧ f 5 = some 1 ∧ f 6 = some 1 ∧ f 7 = some 24 ∧ f 8 = some 24 ∧ f 9 = some 16 ∧ f 10 = some 16 ∧ f 11 = some 16 ∧ f 12 = some 8 ∧ f 13 = some 24 ∧ f 14 = some 24 ∧ f 15 = some 8 ∧ f 16 = some 8 ∧ f 17 = some 8 ∧ f 18 = some 8 ∧ f 19 = some 8 ∧ f 20 = some 16 ∧ f 21 = some 4 ∧ f 22 = some 24 ∧ f 23 = some 24 ∧ f 24 = some 24 ∧ f 25 = some 88 ∧ f 26 = some 88 ∧ f 27 = some 4 ∧ f 28 = some 8 ∧ f 29 = some 8 ∧ f 30 = some 8 ∧ f 31 = some 24 ∧ f 32 = some 8 ∧ f 33 = some 8 ∧ f 34 = some 8 ∧ f 35 = some 24 ∧ f 36 = some 8 ∧ f 37 = some 8 ∧ f 38 = some 8 ∧ f 39 = some 8 ∧ f 40 = some 8 ∧ f 41 = some 40 ∧ f 42 = some 40 ∧ f 44 = some 8 ∧ f 45 = some 8 ∧ f 46 = some 64 ∧ f 47 = some 64 ∧ f 48 = some 8 ∧ f 49 = some 8 ∧ f 50 = some 8 ∧ f 51 = some 144 ∧ f 52 = some 144 ∧ f 53 = some 8 ∧ f 54 = some 8 ∧ f 55 = some 8 ∧ f 56 = some 8 ∧ f 57 = some 8 ∧ f 59 = some 8 ∧ f 60 = some 64 ∧ f 61 = some 8 ∧ f 62 = some 8 ∧ f 63 = some 8 ∧ f 64 = some 8 ∧ f 65 = some 8 ∧ f 66 = some 8 ∧ f 67 = some 8 ∧ f 69 = some 8 ∧ f 70 = some 8 ∧ f 71 = some 8 ∧ f 72 = some 8 ∧ f 73 = some 8 ∧ f 74 = some 8 ∧ f 75 = some 8 ∧ f 76 = some 8 ∧ f 77 = some 8 ∧ f 78 = some 8 ∧ f 79 = some 8 ∧ f 80 = some 12 ∧ f 81 = some 12 ∧ f 82 = some 8 ∧ f 83 = some 8 ∧ f 84 = some 8 ∧ f 85 = some 8 ∧ f 86 = some 8 ∧ f 87 = some 8 ∧ f 88 = some 8 ∧ f 90 = some 8 ∧ f 91 = some 8 ∧ f 92 = some 8 ∧ f 93 = some 8 ∧ f 94 = some 8 ∧ f 95 = some 8 ∧ f 96 = some 8 ∧ f 97 = some 8 ∧ f 98 = some 8 ∧ f 99 = some 8 ∧ f 100 = some 24 ∧ f 101 = some 72 ∧ f 102 = some 24 ∧ f 103 = some 8 ∧ f 104 = some 24 ∧ f 106 = some 8 ∧ f 107 = some 8 ∧ f 108 = some 8 ∧ f 109 = some 8 ∧ f 110 = some 8 ∧ f 111 = some 8 ∧ f 112 = some 8 ∧ f 113 = some 0 ∧ f 114 = some 0 ∧ f 115 = some 0 ∧ f 116 = some 4 ∧ f 117 = some 4 ∧ f 118 = some 8 ∧ f 119 = some 8 ∧ f 120 = some 8 ∧ f 121 = some 8 ∧ f 122 = some 12 ∧ f 123 = some 12 ∧ f 124 = some 1024 ∧ f 125 = some 0 ∧ f 126 = some 8 ∧ f 127 = some 8 ∧ f 128 = some 1048 ∧ f 129 = some 1048 ∧ f 130 = some 8 ∧ f 131 = some 8 ∧ f 132 = some 8 ∧ f 133 = some 8 ∧ f 134 = some 160 ∧ f 135 = some 65 ∧ f 136 = some 8 ∧ f 138 = some 8 ∧ f 139 = some 12 ∧ f 140 = some 12 ∧ f 141 = some 8 ∧ f 142 = some 24 ∧ f 143 = some 72 ∧ f 144 = some 32 ∧ f 145 = some 64 ∧ f 146 = some 8 ∧ f 147 = some 40 ∧ f 148 = some 40 ∧ f 149 = some 0 ∧ f 150 = some 0 ∧ f 151 = some 0 ∧ f 152 = some 8 ∧ f 153 = some 1 ∧ f 154 = some 1 ∧ f 155 = some 8 ∧ f 156 = some 8 ∧ f 157 = some 4 ∧ f 158 = some 4 ∧ f 159 = some 48 ∧ f 160 = some 48 ∧ f 161 = some 32 ∧ f 162 = some 32 ∧ f 163 = some 8) (bytesT (tabOf Tryd.prog NT0)) := by (repeat' apply And.intro) <;> kernel_rfl
set_option maxRecDepth 100000 in
theorem tabZ : (fun (f : Nat → Option AV) (sl iz pz tz bz fz : AV) => f 1 = some fz ∧ f 2 = some iz ∧ f 3 = some iz ∧ f 4 = some bz ∧ f 5 = some (.lit (.int .u8 0)) ∧ f 6 = some (.lit (.int .u8 0)) ∧ f 7 = some (.agg [iz, iz, bz, (.lit (.int .u8 0))]) ∧ f 8 = some (.agg [iz, iz, bz, (.lit (.int .u8 0))]) ∧ f 9 = some tz ∧ f 10 = some tz ∧ f 11 = some tz ∧ f 12 = some (.lit (.int .u64 0)) ∧ f 13 = some (.agg [tz, (.lit (.int .u64 0))]) ∧ f 14 = some (.agg [tz, (.lit (.int .u64 0))]) ∧ f 15 = some pz ∧ f 16 = some pz ∧ f 17 = some pz ∧ f 18 = some (.agg [pz]) ∧ f 19 = some (.agg [pz]) ∧ f 20 = some (.lit .nilIface) ∧ f 21 = some (.lit (.int .i32 0)) ∧ f 22 = some sl ∧ f 23 = some sl ∧ f 24 = some sl ∧ f 25 = some (.agg [iz, sl, sl, sl, iz]) ∧ f 26 = some (.agg [iz, sl, sl, sl, iz]) ∧ f 27 = some (.lit (.int .u32 0)) ∧ f 28 = some fz ∧ f 29 = some fz ∧ f 30 = some fz ∧ f 31 = some sl ∧ f 32 = some fz ∧ f 33 = some fz ∧ f 34 = some fz ∧ f 35 = some sl ∧ f 36 = some fz ∧ f 37 = some fz ∧ f 38 = some iz ∧ f 39 = some fz ∧ f 40 = some fz ∧ f 41 = some (.agg [bz, bz, iz, iz, iz, iz]) ∧ f 42 = some (.agg [bz, bz, iz, iz, iz, iz]) ∧ f 44 = some fz ∧ f 45 = some fz ∧ f 46 = some (.agg [iz, iz, sl, sl]) ∧ f 47 = some (.agg [iz, iz, sl, sl]) ∧ f 48 = some fz ∧ f 49 = some fz ∧ f 50 = some pz ∧ f 51 = some (.agg [iz, sl, sl, sl, iz, (.lit (.int .u32 0)), sl, sl]) ∧ f 52 = some (.agg [iz, sl, sl, sl, iz, (.lit (.int .u32 0)), sl, sl]) ∧ f 53 = some fz ∧ f 54 = some fz ∧ f 55 = some fz ∧ f 56 = some fz ∧ f 57 = some fz ∧ f 59 = some fz ∧ f 60 = some (.agg [tz, tz, tz, tz]) ∧ f 61 = some fz ∧ f 62 = some fz ∧ f 63 = some fz ∧ f 64 = some (.lit (.map none)) ∧ f 65 = some fz ∧ f 66 = some fz ∧ f 67 = some fz ∧ f 69 = some fz ∧ f 70 = some fz ∧ f 71 = some fz ∧ f 72 = some fz ∧ f 73 = some fz ∧ f 74 = some fz ∧ f 75 = some fz ∧ f 76 = some (.lit (.int .u64 0)) ∧ f 77 = some fz ∧ f 78 = some fz ∧ f 79 = some fz ∧ f 80 = some (.agg [(.lit (.int .u32 0)), (.lit (.int .u32 0)), (.lit (.int .u32 0))]) ∧ f 81 = some (.agg [(.lit (.int .u32 0)), (.lit (.int .u32 0)), (.lit (.int .u32 0))]) ∧ f 82 = some fz ∧ f 83 = some fz ∧ f 84 = some fz ∧ f 85 = some fz ∧ f 86 = some (.lit (.int .u64 0)) ∧ f 87 = some fz ∧ f 88 = some iz ∧ f 90 = some fz ∧ f 91 = some fz ∧ f 92 = some fz ∧ f 93 = some fz ∧ f 94 = some fz ∧ f 95 = some fz ∧ f 96 = some fz ∧ f 97 = some pz ∧ f 98 = some fz ∧ f 99 = some fz ∧ f 100 = some (.agg [(.lit (.int .u64 0)), (.lit (.int .u64 0)), (.lit (.int .u64 0))]) ∧ f 101 = some (.agg [(.lit (.int .u64 0)), (.lit (.int .u64 0)), (.lit (.int .u64 0)), (.lit (.int .u64 0)), (.lit (.int .u64 0)), (.lit (.int .u64 0)), (.lit (.int .u64 0)), (.lit (.int .u64 0)), (.lit (.int .u64 0))]) ∧ f 102 = some (.agg [(.lit (.int .u8 0)), (.lit (.int .u8 0)), (.lit (.int .u8 0)), (.lit (.int .u8 0)), (.lit (.int .u8 0)), (.lit (.int .u8 0)), (.lit (.int .u8 0)), (.lit (.int .u8 0)), (.lit (.int .u8 0)), (.lit (.int .u8 0)), (.lit (.int .u8 0)), (.lit (.int .u8 0)), (.lit (.int .u8 0)), (.lit (.int .u8 0)), (.lit (.int .u8 0)), (.lit (.int .u8 0)), (.lit (.int .u8 0)), (.lit (.int .u8 0)), (.lit (.int .u8 0)), (.lit (.int .u8 0)), (.lit (.int .u8 0)), (.lit (.int .u8 0)), (.lit (.int .u8 0)), (.lit (.int .u8 0))]) ∧ f 103 = some fz ∧ f 104 = some sl ∧ f 106 = some fz ∧ f 107 = some (.lit (.int .u64 0)) ∧ f 108 = some fz ∧ f 109 = some fz ∧ f 110 = some fz ∧ f 111 = some pz ∧ f 112 = some fz ∧ f 113 = some (.agg []) ∧ f 114 = some (.agg []) ∧ f 115 = some (.agg []) ∧ f 116 = some (.agg [(.lit (.int .u32 0))]) ∧ f 117 = some (.agg [(.lit (.int .u32 0))]) ∧ f 118 = some (.agg [(.lit (.int .i32 0)), (.lit (.int .u32 0))]) ∧ f 119 = some (.agg [(.lit (.int .i32 0)), (.lit (.int .u32 0))]) ∧ f 120 = some (.agg [(.lit (.int .i32 0)), (.lit (.int .u32 0))]) ∧ f 121 = some (.agg [(.lit (.int .i32 0)), (.lit (.int .u32 0))]) ∧ f 122 = some (.agg [(.lit (.int .u32 0)), (.lit (.int .i32 0)), (.lit (.int .u32 0))]) ∧ f 123 = some (.agg [(.lit (.int .u32 0)), (.lit (.int .i32 0)), (.lit (.int .u32 0))]) ∧ f 125 = some (.agg []) ∧ f 126 = some (.agg [iz]) ∧ f 127 = some (.agg [iz]) ∧ f 130 = some fz ∧ f 131 = some pz ∧ f 132 = some fz ∧ f 133 = some fz ∧ f 134 = some (.agg [(.lit (.int .u64 0)), (.lit (.int .u64 0)), (.lit (.int .u64 0)), (.lit (.int .u64 0)), (.lit (.int .u64 0)), (.lit (.int .u64 0)), (.lit (.int .u64 0)), (.lit (.int .u64 0)), (.lit (.int .u64 0)), (.lit (.int .u64 0)), (.lit (.int .u64 0)), (.lit (.int .u64 0)), (.lit (.int .u64 0)), (.lit (.int .u64 0)), (.lit (.int .u64 0)), (.lit (.int .u64 0)), (.lit (.int .u64 0)), (.lit (.int .u64 0)), (.lit (.int .u64 0)), (.lit (.int .u64 0))]) ∧ f 136 = some pz ∧ f 138 = some fz ∧ f 139 = some (.agg [(.lit (.int .u32 0)), (.lit (.int .u32 0)), (.lit (.int .u32 0))]) ∧ f 140 = some (.agg [(.lit (.int .u32 0)), (.lit (.int .u32 0)), (.lit (.int .u32 0))]) ∧ f 141 = some pz ∧ f 142 = some (.agg [iz, iz, iz]) ∧ f 143 = some (.agg [iz, iz, iz, iz, iz, iz, iz, iz, iz]) ∧ f 144 = some (.agg [(.lit (.int .u8 0)), (.lit (.int .u8 0)), (.lit (.int .u8 0)), (.lit (.int .u8 0)), (.lit (.int .u8 0)), (.lit (.int .u8 0)), (.lit (.int .u8 0)), (.lit (.int .u8 0)), (.lit (.int .u8 0)), (.lit (.int .u8 0)), (.lit (.int .u8 0)), (.lit (.int .u8 0)), (.lit (.int .u8 0)), (.lit (.int .u8 0)), (.lit (.int .u8 0)), (.lit (.int .u8 0)), (.lit (.int .u8 0)), (.lit (.int .u8 0)), (.lit (.int .u8 0)), (.lit (.int .u8 0)), (.lit (.int .u8 0)), (.lit (.int .u8 0)), (.lit (.int .u8 0)), (.lit (.int .u8 0)), (.lit (.int .u8 0)), (.lit (.int .u8 0)), (.lit (.int .u8 0)), (.lit (.int .u8 0)), (.lit (.int .u8 0)), (.lit (.int .u8 0)), (.lit (.int .u8 0)), (.lit (.int .u8 0))]) ∧ f 145 = some (.agg [(.lit (.int .u8 0)), (.lit (.int .u8 0)), (.lit (.int .u8 0)), (.lit (.int .u8 0)), (.lit (.int .u8 0)), (.lit (.int .u8 0)), (.lit (.int .u8 0)), (.lit (.int .u8 0)), (.lit (.int .u8 0)), (.lit (.int .u8 0)), (.lit (.int .u8 0)), (.lit (.int .u8 0)), (.lit (.int .u8 0)), (.lit (.int .u8 0)), (.lit (.int .u8 0)), (.lit (.int .u8 0)), (.lit (.int .u8 0)), (.lit (.int .u8 0)), (.lit (.int .u8 0)), (.lit (.int .u8 0)), (.lit (.int .u8 0)), (.lit (.int .u8 0)), (.lit (.int .u8 0)), (.lit (.int .u8 0)), (.lit (.int .u8 0)), (.lit (.int .u8 0)), (.lit (.int .u8 0)), (.lit (.int .u8 0)), (.lit (.int .u8 0)), (.lit (.int .u8 0)), (.lit (.int .u8 0)), (.lit (.int .u8 0)), (.lit (.int .u8 0)), (.lit (.int .u8 0)), (.lit (.int .u8 0)), (.lit (.int .u8 0)), (.lit (.int .u8 0)), (.lit (.int .u8 0)), (.lit (.int .u8 0)), (.lit (.int .u8 0)), (.lit (.int .u8 0)), (.lit (.int .u8 0)), (.lit (.int .u8 0)), (.lit (.int .u8 0)), (.lit (.int .u8 0)), (.lit (.int .u8 0)), (.lit (.int .u8 0)), (.lit (.int .u8 0)), (.lit (.int .u8 0)), (.lit (.int .u8 0)), (.lit (.int .u8 0)), (.lit (.int .u8 0)), (.lit (.int .u8 0)), (.lit (.int .u8 0)), (.lit (.int .u8 0)), (.lit (.int .u8 0)), (.lit (.int .u8 0)), (.lit (.int .u8 0)), (.lit (.int .u8 0)), (.lit (.int .u8 0)), (.lit (.int .u8 0)), (.lit (.int .u8 0)), (.lit (.int .u8 0)), (.lit (.int .u8 0))]) ∧ f 146 = some fz ∧ f 147 = some (.agg [pz, pz, pz, tz]) ∧ f 148 = some (.agg [pz, pz, pz, tz]) ∧ f 149 = some (.agg []) ∧ f 150 = some (.agg []) ∧ f 151 = some (.agg []) ∧ f 152 = some fz ∧ f 153 = some (.lit (.int .u8 0)) ∧ f 154 = some (.lit (.int .u8 0)) ∧ f 155 = some fz ∧ f 156 = some pz ∧ f 157 = some (.lit (.int .i32 0)) ∧ f 158 = some (.lit (.int .i32 0)) ∧ f 159 = some (.agg [(.lit (.int .u64 0)), (.lit (.int .u64 0)), (.lit (.int .u32 0)), (.lit (.int .u8 0)), (.lit (.int .u8 0)), (.lit (.int .u8 0)), (.lit (.int .u8 0)), fz, pz, (.lit (.int .i32 0)), (.lit (.int .i32 0))]) ∧ f 160 = some (.agg [(.lit (.int .u64 0)), (.lit (.int .u64 0)), (.lit (.int .u32 0)), (.lit (.int .u8 0)), (.lit (.int .u8 0)), (.lit (.int .u8 0)), (.lit (.int .u8 0)), fz, pz, (.lit (.int .i32 0)), (.lit (.int .i32 0))]) ∧ f 161 = some (.agg [iz, iz, iz, iz]) ∧ f 162 = some (.agg [iz, iz, iz, iz]) ∧ f 163 = some pz)
  (zeroT (tabOf Tryd.prog NT0)) (.lit (.slice none 0 0)) (.lit (.int .i64 0)) (.lit (.pointer none)) (.lit (.string ⟨#[]⟩)) (.lit (.bool false)) (.lit .nilFunc) := by (repeat' apply And.intro) <;> kernel_rfl
set_option maxRecDepth 100000 in
theorem tabU : (fun (f : Nat → Option TypeDesc) => f 2 = some (.int .i64) ∧ f 3 = some (.int .i64) ∧ f 4 = some (.bool) ∧ f 5 = some (.int .u8) ∧ f 6 = some (.int .u8) ∧ f 9 = some (.string) ∧ f 10 = some (.string) ∧ f 11 = some (.string) ∧ f 12 = some (.int .u64) ∧ f 15 = some (.pointer 148) ∧ f 16 = some (.pointer 151) ∧ f 17 = some (.pointer 160) ∧ f 21 = some (.int .i32) ∧ f 22 = some (.slice 42) ∧ f 23 = some (.slice 162) ∧ f 24 = some (.slice 47) ∧ f 27 = some (.int .u32) ∧ f 31 = some (.slice 3) ∧ f 35 = some (.slice 9) ∧ f 38 = some (.int .i64) ∧ f 50 = some (.pointer 52) ∧ f 60 = some (.array 4 9) ∧ f 64 = some (.map 3 3) ∧ f 76 = some (.int .u64) ∧ f 86 = some (.int .u64) ∧ f 88 = some (.int .i64) ∧ f 97 = some (.pointer 129) ∧ f 100 = some (.array 3 76) ∧ f 101 = some (.array 3 100) ∧ f 102 = some (.array 24 5) ∧ f 104 = some (.slice 5) ∧ f 107 = some (.int .u64) ∧ f 111 = some (.pointer 3) ∧ f 124 = some (.array 256 27) ∧ f 131 = some (.pointer 27) ∧ f 134 = some (.array 20 86) ∧ f 135 = some (.array 65 5) ∧ f 136 = some (.pointer 107) ∧ f 139 = some (.array 3 27) ∧ f 140 = some (.array 3 27) ∧ f 141 = some (.pointer 140) ∧ f 142 = some (.array 3 3) ∧ f 143 = some (.array 3 142) ∧ f 144 = some (.array 32 5) ∧ f 145 = some (.array 64 5) ∧ f 149 = some (.array 0 16) ∧ f 153 = some (.int .u8) ∧ f 154 = some (.int .u8) ∧ f 156 = some (.pointer 5) ∧ f 157 = some (.int .i32) ∧ f 158 = some (.int .i32)) (und (tabOf Tryd.prog NT0)) := by (repeat' apply And.intro) <;> kernel_rfl
set_option maxRecDepth 100000 in
theorem tabF : (fun (f : Nat → Nat → Option (Nat × Nat × Bool)) => f 7 0 = some (0, 1, false) ∧ f 7 1 = some (1, 1, false) ∧ f 7 2 = some (2, 1, false) ∧ f 7 3 = some (3, 1, false) ∧ f 8 0 = some (0, 1, false) ∧ f 8 1 = some (1, 1, false) ∧ f 8 2 = some (2, 1, false) ∧ f 8 3 = some (3, 1, false) ∧ f 13 0 = some (0, 1, false) ∧ f 13 1 = some (1, 1, false) ∧ f 14 0 = some (0, 1, false) ∧ f 14 1 = some (1, 1, false) ∧ f 18 0 = some (0, 1, false) ∧ f 19 0 = some (0, 1, false) ∧ f 25 0 = some (0, 1, false) ∧ f 25 1 = some (1, 1, false) ∧ f 25 2 = some (2, 1, false) ∧ f 25 3 = some (3, 1, false) ∧ f 25 4 = some (4, 1, false) ∧ f 26 0 = some (0, 1, false) ∧ f 26 1 = some (1, 1, false) ∧ f 26 2 = some (2, 1, false) ∧ f 26 3 = some (3, 1, false) ∧ f 26 4 = some (4, 1, false) ∧ f 41 0 = some (0, 1, false) ∧ f 41 1 = some (1, 1, false) ∧ f 41 2 = some (2, 1, false) ∧ f 41 3 = some (3, 1, false) ∧ f 41 4 = some (4, 1, false) ∧ f 41 5 = some (5, 1, false) ∧ f 42 0 = some (0, 1, false) ∧ f 42 1 = some (1, 1, false) ∧ f 42 2 = some (2, 1, false) ∧ f 42 3 = some (3, 1, false) ∧ f 42 4 = some (4, 1, false) ∧ f 42 5 = some (5, 1, false) ∧ f 46 0 = some (0, 1, false) ∧ f 46 1 = some (1, 1, false) ∧ f 46 2 = some (2, 1, false) ∧ f 46 3 = some (3, 1, false) ∧ f 47 0 = some (0, 1, false) ∧ f 47 1 = some (1, 1, false) ∧ f 47 2 = some (2, 1, false) ∧ f 47 3 = some (3, 1, false) ∧ f 51 0 = some (0, 5, true) ∧ f 51 1 = some (5, 1, false) ∧ f 51 2 = some (6, 1, false) ∧ f 51 3 = some (7, 1, false) ∧ f 52 0 = some (0, 5, true) ∧ f 52 1 = some (5, 1, false) ∧ f 52 2 = some (6, 1, false) ∧ f 52 3 = some (7, 1, false) ∧ f 80 0 = some (0, 1, false) ∧ f 80 1 = some (1, 1, false) ∧ f 80 2 = some (2, 1, false) ∧ f 81 0 = some (0, 1, false) ∧ f 81 1 = some (1, 1, false) ∧ f 81 2 = some (2, 1, false) ∧ f 116 0 = some (0, 0, true) ∧ f 116 1 = some (0, 1, false) ∧ f 117 0 = some (0, 0, true) ∧ f 117 1 = some (0, 1, false) ∧ f 118 0 = some (0, 1, false) ∧ f 118 1 = some (1, 1, false) ∧ f 119 0 = some (0, 1, false) ∧ f 119 1 = some (1, 1, false) ∧ f 120 0 = some (0, 0, true) ∧ f 120 1 = some (0, 2, true) ∧ f 121 0 = some (0, 0, true) ∧ f 121 1 = some (0, 2, true) ∧ f 122 0 = some (0, 0, true) ∧ f 122 1 = some (0, 1, true) ∧ f 122 2 = some (1, 2, true) ∧ f 123 0 = some (0, 0, true) ∧ f 123 1 = some (0, 1, true) ∧ f 123 2 = some (1, 2, true) ∧ f 126 0 = some (0, 0, true) ∧ f 126 1 = some (0, 0, true) ∧ f 126 2 = some (0, 1, false) ∧ f 127 0 = some (0, 0, true) ∧ f 127 1 = some (0, 0, true) ∧ f 127 2 = some (0, 1, false) ∧ f 128 0 = some (0, 3, true) ∧ f 128 1 = some (3, 256, true) ∧ f 128 2 = some (259, 1, true) ∧ f 129 0 = some (0, 3, true) ∧ f 129 1 = some (3, 256, true) ∧ f 129 2 = some (259, 1, true) ∧ f 147 0 = some (0, 1, false) ∧ f 147 1 = some (1, 1, false) ∧ f 147 2 = some (2, 1, false) ∧ f 147 3 = some (3, 1, false) ∧ f 148 0 = some (0, 1, false) ∧ f 148 1 = some (1, 1, false) ∧ f 148 2 = some (2, 1, false) ∧ f 148 3 = some (3, 1, false) ∧ f 150 0 = some (0, 0, true) ∧ f 151 0 = some (0, 0, true) ∧ f 159 0 = some (0, 1, false) ∧ f 159 1 = some (1, 1, false) ∧ f 159 2 = some (2, 1, false) ∧ f 159 3 = some (3, 1, false) ∧ f 159 4 = some (4, 1, false) ∧ f 159 5 = some (5, 1, false) ∧ f 159 6 = some (6, 1, false) ∧ f 159 7 = some (7, 1, false) ∧ f 159 8 = some (8, 1, false) ∧ f 159 9 = some (9, 1, false) ∧ f 159 10 = some (10, 1, false) ∧ f 160 0 = some (0, 1, false) ∧ f 160 1 = some (1, 1, false) ∧ f 160 2 = some (2, 1, false) ∧ f 160 3 = some (3, 1, false) ∧ f 160 4 = some (4, 1, false) ∧ f 160 5 = some (5, 1, false) ∧ f 160 6 = some (6, 1, false) ∧ f 160 7 = some (7, 1, false) ∧ f 160 8 = some (8, 1, false) ∧ f 160 9 = some (9, 1, false) ∧ f 160 10 = some (10, 1, false) ∧ f 161 0 = some (0, 1, false) ∧ f 161 1 = some (1, 1, false) ∧ f 161 2 = some (2, 1, false) ∧ f 161 3 = some (3, 1, false) ∧ f 162 0 = some (0, 1, false) ∧ f 162 1 = some (1, 1, false) ∧ f 162 2 = some (2, 1, false) ∧ f 162 3 = some (3, 1, false)) (fieldOff (tabOf Tryd.prog NT0)) := by (repeat' apply And.intro) <;> kernel_rfl
set_option maxRecDepth 100000 in
theorem tabN :
  pur Tryd.prog (binOp .eql 22 (.slice none 0 0) (.slice none 0 0)) = some (.ok (.bool true)) ∧ pur Tryd.prog (binOp .neq 22 (.slice none 0 0) (.slice none 0 0)) = some (.ok (.bool false)) ∧ pur Tryd.prog (binOp .eql 23 (.slice none 0 0) (.slice none 0 0)) = some (.ok (.bool true)) ∧ pur Tryd.prog (binOp .neq 23 (.slice none 0 0) (.slice none 0 0)) = some (.ok (.bool false)) ∧ pur Tryd.prog (binOp .eql 24 (.slice none 0 0) (.slice none 0 0)) = some (.ok (.bool true)) ∧ pur Tryd.prog (binOp .neq 24 (.slice none 0 0) (.slice none 0 0)) = some (.ok (.bool false)) ∧ pur Tryd.prog (binOp .eql 31 (.slice none 0 0) (.slice none 0 0)) = some (.ok (.bool true)) ∧ pur Tryd.prog (binOp .neq 31 (.slice none 0 0) (.slice none 0 0)) = some (.ok (.bool false)) ∧ pur Tryd.prog (binOp .eql 35 (.slice none 0 0) (.slice none 0 0)) = some (.ok (.bool true)) ∧ pur Tryd.prog (binOp .neq 35 (.slice none 0 0) (.slice none 0 0)) = some (.ok (.bool false)) ∧ pur Tryd.prog (binOp .eql 104 (.slice none 0 0) (.slice none 0 0)) = some (.ok (.bool true)) ∧ pur Tryd.prog (binOp .neq 104 (.slice none 0 0) (.slice none 0 0)) = some (.ok (.bool false)) := by (repeat' apply And.intro) <;> kernel_rfl
set_option maxRecDepth 100000 in
theorem tabR :
  Tryd.f2.results.toList = [] ∧ Tryd.f3.results.toList = [.tmp 6] ∧ Tryd.f4.results.toList = [.tmp 2] ∧ Tryd.f5.results.toList = [.tmp 6] ∧ Tryd.f6.results.toList = [.tmp 6] ∧ Tryd.f7.results.toList = [.tmp 2] ∧ Tryd.f8.results.toList = [.tmp 0] ∧ Tryd.f9.results.toList = [.tmp 4] ∧ Tryd.f10.results.toList = [.tmp 6] ∧ Tryd.f11.results.toList = [.tmp 6] ∧ Tryd.f12.results.toList = [.tmp 4] ∧ Tryd.f13.results.toList = [.tmp 2] ∧ Tryd.f14.results.toList = [.tmp 2] ∧ Tryd.f15.results.toList = [.tmp 2] ∧ Tryd.f16.results.toList = [.tmp 2] ∧ Tryd.f17.results.toList = [.tmp 2] ∧ Tryd.f18.results.toList = [.tmp 6, .tmp 7] ∧ Tryd.f19.results.toList = [.cell 0 26] ∧ Tryd.f20.results.toList = [.tmp 4] ∧ Tryd.f21.results.toList = [.tmp 2] ∧ Tryd.f22.results.toList = [] ∧ Tryd.f23.results.toList = [.tmp 2] ∧ Tryd.f24.results.toList = [.tmp 2] ∧ Tryd.f25.results.toList = [.tmp 10, .tmp 11] ∧ Tryd.f26.results.toList = [.tmp 4] ∧ Tryd.f27.results.toList = [.tmp 6] ∧ Tryd.f28.results.toList = [] ∧ Tryd.f29.results.toList = [.cell 4 47, .tmp 5] ∧ Tryd.f30.results.toList = [.tmp 2] ∧ Tryd.f31.results.toList = [.tmp 4] ∧ Tryd.f32.results.toList = [.tmp 8] ∧ Tryd.f33.results.toList = [.tmp 4] ∧ Tryd.f34.results.toList = [.tmp 6] ∧ Tryd.f35.results.toList = [.cell 4 47, .tmp 5] ∧ Tryd.f36.results.toList = [] ∧ Tryd.f37.results.toList = [] ∧ Tryd.f38.results.toList = [.tmp 2] ∧ Tryd.f39.results.toList = [.tmp 6, .tmp 7, .tmp 8] ∧ Tryd.f40.results.toList = [.tmp 4] ∧ Tryd.f41.results.toList = [.tmp 4] ∧ Tryd.f42.results.toList = [.tmp 4] ∧ Tryd.f43.results.toList = [.cell 4 47, .tmp 5] ∧ Tryd.f44.results.toList = [.tmp 8, .tmp 9] ∧ Tryd.f45.results.toList = [.tmp 4] ∧ Tryd.f46.results.toList = [.tmp 2] ∧ Tryd.f47.results.toList = [.tmp 2] ∧ Tryd.f48.results.toList = [.tmp 4] ∧ Tryd.f49.results.toList = [.tmp 2] ∧ Tryd.f50.results.toList = [.tmp 4] ∧ Tryd.f51.results.toList = [] ∧ Tryd.f52.results.toList = [.tmp 2] ∧ Tryd.f53.results.toList = [.tmp 8, .tmp 9] ∧ Tryd.f54.results.toList = [.tmp 4] ∧ Tryd.f55.results.toList = [.tmp 4] ∧ Tryd.f56.results.toList = [.tmp 6] ∧ Tryd.f57.results.toList = [.cell 2 81] ∧ Tryd.f58.results.toList = [.tmp 4] ∧ Tryd.f59.results.toList = [.tmp 4] ∧ Tryd.f60.results.toList = [.tmp 2] ∧ Tryd.f61.results.toList = [] ∧ Tryd.f62.results.toList = [] ∧ Tryd.f63.results.toList = [] ∧ Tryd.f64.results.toList = [.tmp 6, .tmp 7] ∧ Tryd.f65.results.toList = [] ∧ Tryd.f66.results.toList = [.tmp 6] ∧ Tryd.f67.results.toList = [.tmp 4] ∧ Tryd.f68.results.toList = [.tmp 8] ∧ Tryd.f69.results.toList = [.tmp 8, .tmp 9] ∧ Tryd.f70.results.toList = [.tmp 2] ∧ Tryd.f71.results.toList = [.tmp 2] ∧ Tryd.f72.results.toList = [.tmp 0] ∧ Tryd.f73.results.toList = [.tmp 7] ∧ Tryd.f74.results.toList = [.tmp 4] ∧ Tryd.f75.results.toList = [.tmp 8] ∧ Tryd.f76.results.toList = [.tmp 6] ∧ Tryd.f77.results.toList = [.tmp 2] ∧ Tryd.f78.results.toList = [.tmp 2] ∧ Tryd.f79.results.toList = [.tmp 2] ∧ Tryd.f80.results.toList = [] ∧ Tryd.f81.results.toList = [.tmp 10, .tmp 11] ∧ Tryd.f82.results.toList = [] ∧ Tryd.f83.results.toList = [.tmp 2] ∧ Tryd.f84.results.toList = [.tmp 2] ∧ Tryd.f85.results.toList = [.tmp 6] ∧ Tryd.f86.results.toList = [.tmp 10] ∧ Tryd.f87.results.toList = [.tmp 2] ∧ Tryd.f88.results.toList = [.tmp 2] ∧ Tryd.f89.results.toList = [] ∧ Tryd.f90.results.toList = [.tmp 2] ∧ Tryd.f91.results.toList = [.tmp 2] ∧ Tryd.f92.results.toList = [.tmp 2] ∧ Tryd.f93.results.toList = [.tmp 2] ∧ Tryd.f94.results.toList = [.tmp 8, .tmp 9] ∧ Tryd.f95.results.toList = [] ∧ Tryd.f96.results.toList = [.tmp 2] ∧ Tryd.f97.results.toList = [.tmp 2] ∧ Tryd.f121.results.toList = [] := by (repeat' apply And.intro) <;> kernel_rfl
set_option maxRecDepth 100000 in
theorem tabP : (fun (f : Nat → Option (List (Nat × Nat))) => f 7 = some [(0, 1), (1, 1), (2, 1), (3, 1)] ∧ f 8 = some [(0, 1), (1, 1), (2, 1), (3, 1)] ∧ f 13 = some [(0, 1), (1, 1)] ∧ f 14 = some [(0, 1), (1, 1)] ∧ f 18 = some [(0, 1)] ∧ f 19 = some [(0, 1)] ∧ f 25 = some [(0, 1), (1, 1), (2, 1), (3, 1), (4, 1)] ∧ f 26 = some [(0, 1), (1, 1), (2, 1), (3, 1), (4, 1)] ∧ f 41 = some [(0, 1), (1, 1), (2, 1), (3, 1), (4, 1), (5, 1)] ∧ f 42 = some [(0, 1), (1, 1), (2, 1), (3, 1), (4, 1), (5, 1)] ∧ f 46 = some [(0, 1), (1, 1), (2, 1), (3, 1)] ∧ f 47 = some [(0, 1), (1, 1), (2, 1), (3, 1)] ∧ f 51 = some [(0, 5), (5, 1), (6, 1), (7, 1)] ∧ f 52 = some [(0, 5), (5, 1), (6, 1), (7, 1)] ∧ f 80 = some [(0, 1), (1, 1), (2, 1)] ∧ f 81 = some [(0, 1), (1, 1), (2, 1)] ∧ f 113 = some [] ∧ f 114 = some [] ∧ f 115 = some [] ∧ f 116 = some [(0, 0), (0, 1)] ∧ f 117 = some [(0, 0), (0, 1)] ∧ f 118 = some [(0, 1), (1, 1)] ∧ f 119 = some [(0, 1), (1, 1)] ∧ f 120 = some [(0, 0), (0, 2)] ∧ f 121 = some [(0, 0), (0, 2)] ∧ f 122 = some [(0, 0), (0, 1), (1, 2)] ∧ f 123 = some [(0, 0), (0, 1), (1, 2)] ∧ f 125 = some [] ∧ f 126 = some [(0, 0), (0, 0), (0, 1)] ∧ f 127 = some [(0, 0), (0, 0), (0, 1)] ∧ f 128 = some [(0, 3), (3, 256), (259, 1)] ∧ f 129 = some [(0, 3), (3, 256), (259, 1)] ∧ f 147 = some [(0, 1), (1, 1), (2, 1), (3, 1)] ∧ f 148 = some [(0, 1), (1, 1), (2, 1), (3, 1)] ∧ f 150 = some [(0, 0)] ∧ f 151 = some [(0, 0)] ∧ f 159 = some [(0, 1), (1, 1), (2, 1), (3, 1), (4, 1), (5, 1), (6, 1), (7, 1), (8, 1), (9, 1), (10, 1)] ∧ f 160 = some [(0, 1), (1, 1), (2, 1), (3, 1), (4, 1), (5, 1), (6, 1), (7, 1), (8, 1), (9, 1), (10, 1)] ∧ f 161 = some [(0, 1), (1, 1), (2, 1), (3, 1)] ∧ f 162 = some [(0, 1), (1, 1), (2, 1), (3, 1)]) (placesOf (tabOf Tryd.prog NT0)) := by (repeat' apply And.intro) <;> kernel_rfl
end Go.Proofs.YtkgbeihcepociaaDoor.Ex
end

section

set_option linter.unusedSimpArgs false
set_option linter.unusedVariables false
namespace Go.Proofs.YtkgbeihcepociaaDoor.Ex
open Go
def S00 : Sums := fun _ => none
section
variable {P : Program} {T : TT} {S : Sums} {t : TM} {h : AH} {d : Option Tmp} {ty : TypeId} {ps : String} {af : Array Edge} {g : Option (Nat × Bool)} {k k' : IntKind} {a b : Int} {e : TypeId}
def xorI (k : IntKind) (a b : Int) : Int := k.wrap ((BitVec.ofInt k.bits a ^^^ BitVec.ofInt k.bits b).toNat : Int)
def andI (k : IntKind) (a b : Int) : Int := k.wrap ((BitVec.ofInt k.bits a &&& BitVec.ofInt k.bits b).toNat : Int)
def orI (k : IntKind) (a b : Int) : Int := k.wrap ((BitVec.ofInt k.bits a ||| BitVec.ofInt k.bits b).toNat : Int)
def shlI (k : IntKind) (a b : Int) : Int := k.wrap (a * 2 ^ min b.toNat k.bits)
def shrI (k : IntKind) (a b : Int) : Int := a.fdiv (2 ^ min b.toNat k.bits)
theorem pb_xor : pur P (binOp .xor e (.int k a) (.int k b)) = some (.ok (.int k (xorI k a b))) := by simp [binOp, Op.intBits, xorI]; rfl
theorem pb_and : pur P (binOp .and e (.int k a) (.int k b)) = some (.ok (.int k (andI k a b))) := by simp [binOp, Op.intBits, andI]; rfl
theorem pb_or : pur P (binOp .or e (.int k a) (.int k b)) = some (.ok (.int k (orI k a b))) := by simp [binOp, Op.intBits, orI]; rfl
theorem pb_shl (hb : 0 ≤ b) : pur P (binOp .shl e (.int k a) (.int k' b)) = some (.ok (.int k (shlI k a b))) := by
  have : ¬ b < 0 := by omega
  simp [binOp, Op.shift, shlI, this]; rfl
theorem pb_shr (hb : 0 ≤ b) : pur P (binOp .shr e (.int k a) (.int k' b)) = some (.ok (.int k (shrI k a b))) := by
  have : ¬ b < 0 := by omega
  simp [binOp, Op.shift, shrI, this]; rfl
theorem pb_quo (hb : ¬ b = 0) : pur P (binOp .quo e (.int k a) (.int k b)) = some (.ok (.int k (k.wrap (a.tdiv b)))) := by simp [binOp, Op.intDiv, hb]; rfl
theorem pb_rem (hb : ¬ b = 0) : pur P (binOp .rem e (.int k a) (.int k b)) = some (.ok (.int k (a.tmod b))) := by simp [binOp, Op.intDiv, hb]; rfl
def aNilR (P : Program) (o : Oper) (t : TM) (h : AH) (x : Operand) : AR := aNilCheck P o t h x
theorem a_nil {i : Nat} : aop P T ⟨d, .nilCheck (.tmp i), ty, ps, af, g⟩ t h = (match t.get i with
    | .ptr b off => some (.val (.ptr b off), h)
    | _ => aNilR P ⟨d, .nilCheck (.tmp i), ty, ps, af, g⟩ t h (.tmp i)) := by
  show aNilCheck _ _ _ _ _ = _
  split
  · rename_i b off hb
    unfold aNilCheck
    rw [ev_tmp, hb]
  · rfl
theorem tri_comm {α : Type} (dd : α) : ∀ (f f' : Nat) (t : Tri α) (k j : Nat) (x y : α), 1 ≤ k → 1 ≤ j → k ≠ j → k < 2 ^ f → j < 2 ^ f' → Tri.put dd f (Tri.put dd f' t j y) k x = Tri.put dd f' (Tri.put dd f t k x) j y
  | 0, _, _, _, _, _, _, h1, _, _, h2, _ => by simp at h2; omega
  | _ + 1, 0, _, _, _, _, _, _, h1, _, _, h2 => by simp at h2; omega
  | f + 1, f' + 1, t, k, j, x, y, hk, hj, hne, h1, h2 => by
    have e1 : k / 2 < 2 ^ f := by rw [Nat.pow_succ] at h1; omega
    have e2 : j / 2 < 2 ^ f' := by rw [Nat.pow_succ] at h2; omega
    have key := fun t => tri_comm dd f f' t (k / 2) (j / 2) x y
    simp only [Tri.put]
    cases hk1 : Nat.ble k 1 <;> cases hj1 : Nat.ble j 1 <;> cases hk2 : Nat.beq (k % 2) 0 <;> cases hj2 : Nat.beq (j % 2) 0 <;> simp only [cond_true, cond_false, Tri.lt, Tri.rt, Tri.top, Tri.n.injEq, true_and, and_true]
    all_goals first
      | (exfalso; have := Nat.ble_eq.mp hk1; have := Nat.ble_eq.mp hj1; omega)
      | skip
    all_goals
      have g1 : ¬ k ≤ 1 := fun h => by rw [Nat.ble_eq.mpr h] at hk1; cases hk1
      have g2 : ¬ j ≤ 1 := fun h => by rw [Nat.ble_eq.mpr h] at hj1; cases hj1
    · have p1 : ¬ k % 2 = 0 := fun h => by rw [h] at hk2; cases hk2
      have p2 : ¬ j % 2 = 0 := fun h => by rw [h] at hj2; cases hj2
      exact key _ (by omega) (by omega) (by omega) e1 e2
    · have p1 := Nat.eq_of_beq_eq_true hk2
      have p2 := Nat.eq_of_beq_eq_true hj2
      exact key _ (by omega) (by omega) (by omega) e1 e2
theorem put_push_eq {b : Nat} {x y : AB} (hb : b = h.n) : (h.push x).put b y = h.push y := by subst hb; exact put_push
theorem put_push_lt {b : Nat} {x y : AB} (hb : b < h.n) : (h.push x).put b y = (h.put b y).push x := by
  unfold AH.put AH.push vPut vPush
  simp only
  rw [show Nat.blt b (h.n + 1) = true from Nat.blt_eq.mpr (by omega), show Nat.blt b h.n = true from Nat.blt_eq.mpr hb]
  simp only [cond_true]
  rw [tri_comm _ _ _ _ _ _ _ _ (by omega) (by omega) (by omega) (log2_lt _ (by omega)) (log2_lt _ (by omega))]
theorem lt_a1 {n : Nat} : n < n + 1 := Nat.lt_succ_self n
theorem lt_a2 {n : Nat} : n < n + 1 + 1 := by omega
theorem lt_a3 {n : Nat} : n < n + 1 + 1 + 1 := by omega
theorem lt_a4 {n : Nat} : n < n + 1 + 1 + 1 + 1 := by omega
theorem lt_a5 {n : Nat} : n < n + 1 + 1 + 1 + 1 + 1 := by omega
theorem lt_a6 {n : Nat} : n < n + 1 + 1 + 1 + 1 + 1 + 1 := by omega
theorem lt_a7 {n : Nat} : n < n + 1 + 1 + 1 + 1 + 1 + 1 + 1 := by omega
theorem res_cell {i : Nat} {r : List ResultVar} : resultsA T h t (.cell i ty :: r) = (match t.get i, resultsA T h t r with
    | .ptr b off, some l => (loadA T h ty b off).map (· :: l)
    | _, _ => none) := rfl
/-- A pointer held against nil. -/
def isPtrT (T : TT) (t : TypeId) : Bool := match und T t with
  | some (.pointer _) => true
  | _ => false
theorem pn_none {o : Oper} {i : Nat} {b off : Nat} {op : BinOp} {f : TypeId} (ho : o.op = .binOp op e (.tmp i) (.const (.pointer none)) f) (hv : t.get i = .ptr b off) : litOp P o t = none := by
  unfold litOp
  rw [ho, if_neg]
  simp [Op.operands, litAll, ev_tmp, hv, toVal]
theorem a_eqnilp {i : Nat} {f : TypeId} (hT : isPtrT T e = true) : aop P T ⟨d, .binOp .eql e (.tmp i) (.const (.pointer none)) f, ty, ps, af, g⟩ t h = (match t.get i with
    | .ptr _ _ => some (.val (.lit (.bool false)), h)
    | _ => aBin P T ⟨d, .binOp .eql e (.tmp i) (.const (.pointer none)) f, ty, ps, af, g⟩ t h .eql e (.tmp i) (.const (.pointer none))) := by
  rw [a_bin]
  split
  · rename_i b off hv
    unfold isPtrT at hT
    split at hT
    case h_2 => cases hT
    rename_i el hu
    unfold aBin
    simp only [ev_tmp, hv, ev_nilp]
    simp only [orLit, pn_none (o := ⟨d, .binOp .eql e (.tmp i) (.const (.pointer none)) f, ty, ps, af, g⟩) rfl hv, aSame, hu, ev_tmp, hv, ev_nilp, sameA]
  · rfl
theorem a_nenilp {i : Nat} {f : TypeId} (hT : isPtrT T e = true) : aop P T ⟨d, .binOp .neq e (.tmp i) (.const (.pointer none)) f, ty, ps, af, g⟩ t h = (match t.get i with
    | .ptr _ _ => some (.val (.lit (.bool true)), h)
    | _ => aBin P T ⟨d, .binOp .neq e (.tmp i) (.const (.pointer none)) f, ty, ps, af, g⟩ t h .neq e (.tmp i) (.const (.pointer none))) := by
  rw [a_bin]
  split
  · rename_i b off hv
    unfold isPtrT at hT
    split at hT
    case h_2 => cases hT
    rename_i el hu
    unfold aBin
    simp only [ev_tmp, hv, ev_nilp]
    simp only [orLit, pn_none (o := ⟨d, .binOp .neq e (.tmp i) (.const (.pointer none)) f, ty, ps, af, g⟩) rfl hv, aSame, hu, ev_tmp, hv, ev_nilp, sameA]
    rfl
  · rfl
/-- An array's element, of values that are known. -/
theorem a_index_lit {i j : Nat} {vx vy vr : Value} {ar : AV} (hx : toVal (t.get i) = some vx) (hy : toVal (t.get j) = some vy)
    (he : pur P (Instr.index e vx vy) = some (.ok vr)) (hr : ofVal vr = some ar) : aop P T ⟨d, .index e (.tmp i) (.tmp j), ty, ps, af, g⟩ t h = some (.val ar, h) := by
  have key : ∀ (f : Value → Sem Next), pur P (Instr.index e vx vy >>= f) = pur P (f vr) := fun f => by
    generalize Instr.index e vx vy = s at he
    induction s with
    | pure x => simp [pur] at he; subst he; rfl
    | halt r => cases r <;> simp [pur] at he
    | program k ih => exact ih P he
    | mark e k ih => exact ih he
    | _ => simp [pur] at he
  have h0 : litOp P ⟨d, .index e (.tmp i) (.tmp j), ty, ps, af, g⟩ t = some (.val ar) := by
    unfold litOp
    rw [if_pos (by simp [notSelect, Op.operands, litAll, ev_tmp, hx, hy])]
    have e1 : litEnv t (.tmp i) = vx := by simp [litEnv, ev_tmp, hx]
    have e2 : litEnv t (.tmp j) = vy := by simp [litEnv, ev_tmp, hy]
    simp only [execOp, e1, e2, key]
    show ofPR (some (.ok (.value vr))) = _
    simp only [ofPR, hr, Option.map_some]
  show aIndex _ _ _ _ _ _ _ _ = _
  unfold aIndex orLit
  rw [h0]
def strAt (s : ByteArray) (n : Int) : Option Nat := if 0 ≤ n then (s[n.toNat]?).map (·.toNat) else none
def isStrT (T : TT) (t : TypeId) : Bool := match und T t with
  | some .string => true
  | _ => false
theorem index_str_run {N : NT} {s : ByteArray} {n : Int} {b : Nat} (hT : isStrT (tabOf P N) e = true) (hb : strAt s n = some b) : pur P (Instr.index e (.string s) (.int k n)) = some (.ok (.int .u8 b)) := by
  have hu : und (tabOf P N) e = some .string := by
    unfold isStrT at hT
    split at hT
    · assumption
    · cases hT
  have hP : P.underlying e = some .string := by
    have := und_tab hu
    cases hq : P.underlying e with
    | none => rw [hq] at this; cases this
    | some x => rw [hq] at this; exact congrArg some this
  have u1 : ∀ {α : Type} (f : TypeDesc → Sem α), pur P (underlying e >>= f) = pur P (f .string) := fun f => by
    show pur P ((match P.underlying e with | some d => pure d | none => stuck "no such type") >>= f) = _
    rw [hP]
    rfl
  unfold Instr.index
  show pur P (underlying e >>= _) = _
  rw [u1]
  unfold strAt at hb
  split at hb
  case isFalse => cases hb
  rename_i h0
  obtain ⟨c, hc, rfl⟩ := Option.map_eq_some_iff.1 hb
  simp only [if_pos h0, hc]
  rfl
/-- A text's byte. -/
def aIdxR (P : Program) (T : TT) (o : Oper) (t : TM) (h : AH) (e : TypeId) (x y : Operand) : AR := aIndex P T o t h e x y
theorem idx_str {N : NT} {x y : Operand} {s : ByteArray} {n : Int} {b : Nat} (hT : isStrT (tabOf P N) e = true) (hx : evalA t x = some (.lit (.string s))) (hy : evalA t y = some (.lit (.int k n))) (hb : strAt s n = some b) : aop P (tabOf P N) ⟨d, .index e x y, ty, ps, af, g⟩ t h = some (.val (.lit (.int .u8 b)), h) := by
  have he := index_str_run (P := P) (k := k) hT hb
  have key : ∀ (f : Value → Sem Next), pur P (Instr.index e (.string s) (.int k n) >>= f) = pur P (f (.int .u8 b)) := fun f => by
    generalize Instr.index e (.string s) (.int k n) = s at he
    induction s with
    | pure x => simp [pur] at he; subst he; rfl
    | halt r => cases r <;> simp [pur] at he
    | program k ih => exact ih P he
    | mark e k ih => exact ih he
    | _ => simp [pur] at he
  have h0 : litOp P ⟨d, .index e x y, ty, ps, af, g⟩ t = some (.val (.lit (.int .u8 b))) := by
    unfold litOp
    rw [if_pos (by simp [notSelect, Op.operands, litAll, hx, hy, toVal])]
    have e1 : litEnv t x = .string s := by simp [litEnv, hx, toVal]
    have e2 : litEnv t y = .int k n := by simp [litEnv, hy, toVal]
    simp only [execOp, e1, e2, key]
    rfl
  show aIndex _ _ _ _ _ _ _ _ = _
  unfold aIndex orLit
  rw [h0]
theorem a_idx_cs {N : NT} {s : ByteArray} {j : Nat} (hT : isStrT (tabOf P N) e = true) : aop P (tabOf P N) ⟨d, .index e (.const (.string s)) (.tmp j), ty, ps, af, g⟩ t h = (match t.get j with
    | .lit (.int _ n) => (match strAt s n with
      | some b => some (.val (.lit (.int .u8 b)), h)
      | none => aIdxR P (tabOf P N) ⟨d, .index e (.const (.string s)) (.tmp j), ty, ps, af, g⟩ t h e (.const (.string s)) (.tmp j))
    | _ => aIdxR P (tabOf P N) ⟨d, .index e (.const (.string s)) (.tmp j), ty, ps, af, g⟩ t h e (.const (.string s)) (.tmp j)) := by
  split
  · rename_i k n hy
    split
    · rename_i b hb
      exact idx_str hT rfl (by rw [ev_tmp, hy]) hb
    · rfl
  · rfl
def aConR (P : Program) (T : TT) (o : Oper) (t : TM) (h : AH) (src dst : TypeId) (x : Operand) : AR := aConvert P T o t h src dst x
/-- A number of another kind. -/
theorem a_conv {src dst i : Nat} : aop P T ⟨d, .convert src dst (.tmp i), ty, ps, af, g⟩ t h = (match t.get i, und T src, und T dst with
    | .lit (.int _ n), some _, some (.int k') => some (.val (.lit (.int k' (k'.wrap n))), h)
    | _, _, _ => aConR P T ⟨d, .convert src dst (.tmp i), ty, ps, af, g⟩ t h src dst (.tmp i)) := by
  show aConvert _ _ _ _ _ _ _ _ = _
  split
  · rename_i k n d' k' h1 h2 h3
    unfold aConvert
    rw [ev_tmp, h1, h2, h3]
  · rfl
theorem a_mkf {f : Fn} {xs ys : Array Operand} : aop P T ⟨d, .makeFunc f xs ys, ty, ps, af, g⟩ t h = aMakeFunc t h f xs ys := rfl
/-- A loop by goto. -/
theorem WB_again {E : FE} {k : List AI} {K : KK} (Inv : Nat → TM → AH → Prop) (n : Nat)
    (step : ∀ n t h, Inv n t h → (∀ m t' h', m < n → Inv m t' h' → WB P T S E t' k h' K) → WB P T S E t k h K) : ∀ t h, Inv n t h → WB P T S E t k h K := by
  induction n using Nat.strongRecOn with
  | _ n ih => exact fun t h hi => step n t h hi fun m t' h' hm hi' => ih m hm t' h' hi'
theorem WB_lab {E : FE} {l : Nat} {k k' : List AI} {K : KK} (hk : gotoA l k = some k') (hs : ∀ t h, WB P T S E t k' h K = WB P T S E t k h K) (Inv : Nat → TM → AH → Prop) (n : Nat)
    (step : ∀ n t h, Inv n t h → (∀ m t' h', m < n → Inv m t' h' → WGoto P T S E t' h' K (gotoA l k)) → WB P T S E t k h K) : ∀ t h, Inv n t h → WB P T S E t (.code (.label l) :: k) h K := by
  intro t h hi
  rw [WB_label]
  rw [hk] at step
  have := WB_again (k := k') Inv n (fun n t h hi ih => by rw [hs]; exact step n t h hi ih) t h hi
  rw [hs] at this
  exact this
theorem WC_sum {f : FuncId} {args : List AV} {fn : Func} {c : Code} {v : AV} {h' : AH} {Q : AV → AH → Prop} {g : List AV → AH → Option (AV × AH)} (hf : P.funcs[f]? = some fn) (hb : fn.body = some c) (hS : S f = some g) (hg : g args h = some (v, h')) (hq : Q v h') : WC P T S f args h Q := by
  refine ⟨1, .ended (.ret v) none, h', ?_, v, none, rfl, hq⟩
  show xCall P S (ex P T S 0) f args none h = _
  unfold xCall
  rw [hf]
  simp only [hb, hS, hg]
  rfl
end
theorem wrap_in {n : Int} (h1 : -9223372036854775808 ≤ n) (h2 : n < 9223372036854775808) : IntKind.i64.wrap n = n := IntWalk.i64_in _ ⟨h1, by omega⟩
theorem wrap_u32 {n : Int} (h1 : 0 ≤ n) (h2 : n < 4294967296) : IntKind.u32.wrap n = n := by
  unfold IntKind.wrap
  simp [IntKind.bits, IntKind.signed]
  omega
theorem wrap_u64 {n : Int} (h1 : 0 ≤ n) (h2 : n < 18446744073709551616) : IntKind.u64.wrap n = n := by
  unfold IntKind.wrap
  simp [IntKind.bits, IntKind.signed]
  omega
theorem wrap_succ {i n : Nat} (h : i < n) (hn : n < 9223372036854775808) : IntKind.i64.wrap ((i : Int) + 1) = ((i + 1 : Nat) : Int) := (wrap_in (by omega) (by omega)).trans (by omega)
end Go.Proofs.YtkgbeihcepociaaDoor.Ex
end

section

set_option linter.unusedSimpArgs false
set_option linter.defProp false
set_option maxRecDepth 100000
namespace Go.Proofs.YtkgbeihcepociaaDoor.Ex
open Go
def corem0 := And.intro @plainO.eq_1 (And.intro @plainO.eq_2 (And.intro @plainOp.eq_1 (And.intro @plainOp.eq_2 (And.intro @plainOp.eq_3 (And.intro @natA_int (And.intro @Int.toNat_natCast (And.intro @WB_seq (And.intro @WB_region (And.intro @WB_reg_nil (And.intro @WB_reg_s (And.intro @WRegO_some (And.intro @WRegO_guard (And.intro @WReg_true (And.intro @WReg_false (And.intro @WB_block (And.intro @WB_blk (And.intro @WB_loop (And.intro @WB_skip (And.intro @WB_scope (And.intro @WB_sc (And.intro @WB_ret (And.intro @WB_nil (And.intro @List.size_toArray.{0} (And.intro @List.size_toArray.{1} (And.intro @List.length_cons.{0} (And.intro @List.length_cons.{1} (And.intro @List.length_nil.{0} (And.intro @List.length_nil.{1} (And.intro @Nat.zero_add (And.intro @Nat.add_zero (And.intro @Nat.mul_one (And.intro @rng0 (And.intro @List.range'_succ (And.intro @List.range'_zero (And.intro @List.getElem?_toArray.{0} (And.intro @List.getElem?_toArray.{1} (And.intro @List.getElem?_cons_zero.{0} (And.intro @List.getElem?_cons_zero.{1} (And.intro @List.getElem?_cons_succ.{0} (And.intro @List.getElem?_cons_succ.{1} (And.intro @a_move (And.intro @a_assign (And.intro @a_load (And.intro @aLoad.eq_1 (And.intro @a_store (And.intro @aStore.eq_1 (And.intro @aIndexAddr.eq_1 (And.intro @a_fieldAddr (And.intro @fa_eq (And.intro @faM.eq_1 (And.intro @faM.eq_2 (And.intro @a_field (And.intro @fd_eq (And.intro @fdM.eq_1 (And.intro @fdM.eq_2 (And.intro @fdM.eq_3 (And.intro @a_buildSlice (And.intro @bs_eq (And.intro @bsM.eq_1 (And.intro @bsM.eq_2 (And.intro @bsM.eq_3 (And.intro @rep.eq_1 (And.intro @rep.eq_2 (And.intro @fillA.eq_1 (And.intro @fillA.eq_2 (And.intro @evalParts.eq_1 (And.intro @evalParts.eq_2 (And.intro @List.map_cons.{0,0} (And.intro @List.map_cons.{0,1} (And.intro @List.map_cons.{1,0} (And.intro @List.map_cons.{1,1} (And.intro @List.map_nil.{0,0} (And.intro @List.map_nil.{0,1} (And.intro @List.map_nil.{1,0} (And.intro @List.map_nil.{1,1} (And.intro @a_un (And.intro @a_extract (And.intro @aExtract.eq_1 (And.intro @a_alloc (And.intro @aAlloc.eq_1 (And.intro @a_box (And.intro @aBox.eq_1 (And.intro @pb_lss (And.intro @pb_leq (And.intro @pb_gtr (And.intro @pb_geq (And.intro @pb_eql (And.intro @pb_neq (And.intro @pb_add (And.intro @pb_sub (And.intro @pb_mul (And.intro @ofPV_int (And.intro @ofPV_bool (And.intro @val.eq_1 (And.intro @Option.map_some.{0,0} (And.intro @Option.map_some.{0,1} (And.intro @Option.map_some.{1,0} (And.intro @Option.map_some.{1,1} (And.intro @Option.map_none.{0,0} (And.intro @Option.map_none.{0,1} (And.intro @Option.map_none.{1,0} (And.intro @Option.map_none.{1,1} (And.intro @ev_tmp (And.intro @ev_int (And.intro @ev_bool (And.intro @ev_str (And.intro @ev_nilp (And.intro @ev_nils (And.intro @ev_nilm (And.intro @ev_nilf (And.intro @ev_nili (And.intro @ev_func (And.intro @val_ok (And.intro @WOp_val (And.intro @WOp_enter (And.intro @KC_eq (And.intro @List.append_nil.{0} (And.intro @List.append_nil.{1} (And.intro @List.cons_append.{0} (And.intro @List.cons_append.{1} (And.intro @setTmp_some (And.intro @setTmp_none (And.intro @callA.eq_1 (And.intro @callA.eq_2 (And.intro @callA.eq_3 (And.intro @callA.eq_4 (And.intro @evals.eq_1 (And.intro @evals.eq_2 (And.intro @get_set_ne (And.intro @get_set_same (And.intro @get_ofL' (And.intro @tabA (And.intro @tabS (And.intro @tabB (And.intro @tabZ (And.intro @tabU (And.intro @tabF (And.intro @ne_eq.{0} (And.intro @ne_eq.{1} (And.intro @not_false_eq_true (And.intro @not_true_eq_false (And.intro @n_set (And.intro @n_ofL (And.intro @WIf_some (And.intro @WB_exit (And.intro @exA_blk (And.intro @exA_code (And.intro @exA_lp (And.intro @exA_sc (And.intro @WExit_some (And.intro @List.getD_cons_zero.{0} (And.intro @List.getD_cons_zero.{1} (And.intro @List.getD_cons_succ.{0} (And.intro @List.getD_cons_succ.{1} (And.intro @if_true.{0} (And.intro @if_true.{1} (And.intro @if_false.{0} (And.intro @if_false.{1} (And.intro @Nat.zero_le (And.intro @Nat.zero_mul (And.intro @Bool.true_and (And.intro @Bool.and_true (And.intro @Bool.and_self (And.intro @Bool.false_and (And.intro @Bool.and_false (And.intro @cond_true.{0} (And.intro @cond_true.{1} (And.intro @cond_false.{0} (And.intro @cond_false.{1} (And.intro @Option.bind_some.{0,0} (And.intro @Option.bind_some.{0,1} (And.intro @Option.bind_some.{1,0} (And.intro @Option.bind_some.{1,1} (And.intro @decide_true (And.intro @decide_false (And.intro @true_implies (And.intro @false_implies (And.intro @forall_const.{0} (And.intro @forall_const.{1} (And.intro @and_true (And.intro @true_and (And.intro @or_true (And.intro @false_or (And.intro @res_nil (And.intro @res_tmp (And.intro @ats_same (And.intro @ats_ne (And.intro @one_lit (And.intro @one_ptr (And.intro @one_sl (And.intro @one_mp (And.intro @one_fn (And.intro @one_ifc (And.intro @one_any (And.intro @b_tt (And.intro @b_ft (And.intro @b_tf (And.intro @b_ff (And.intro @cells_lit (And.intro @cells_sl (And.intro @cells_ptr (And.intro @cells_agg (And.intro @cells_one (And.intro @ld_new (And.intro @ld_old (And.intro @ld_put (And.intro @ld_else (And.intro @st_eq (And.intro @stL.eq_1 (And.intro @stL.eq_2 (And.intro @at_new (And.intro @at_old (And.intro @at_put (And.intro @at_else (And.intro @n_put (And.intro @n_push2 (And.intro @cut.eq_1 (And.intro @List.take_succ_cons.{0} (And.intro @List.take_succ_cons.{1} (And.intro @List.drop_succ_cons.{0} (And.intro @List.drop_succ_cons.{1} (And.intro @List.all_cons.{0} (And.intro @List.all_cons.{1} (And.intro @List.all_nil.{0} (And.intro @List.all_nil.{1} (And.intro @Nat.lt_add_one (And.intro @a_pick (And.intro @aPick.eq_1 (And.intro @Bool.cond_false.{0} (And.intro @Bool.cond_false.{1} (And.intro @Bool.cond_true.{0} (And.intro @Bool.cond_true.{1} (And.intro @wantedA.eq_1 (And.intro @Option.bind_none.{0,0} (And.intro @Option.bind_none.{0,1} (And.intro @Option.bind_none.{1,0} (And.intro @Option.bind_none.{1,1} (And.intro @a_callv (And.intro @a_append (And.intro @a_len (And.intro @a_min (And.intro @a_max (And.intro @a_ia (And.intro @a_iap (And.intro @iaM_some (And.intro @isPtr.eq_1 (And.intro @isPtr.eq_2 (And.intro @szE.eq_1 (And.intro @szOk.eq_1 (And.intro @isSlT.eq_1 (And.intro @Option.getD_some.{0} (And.intro @Option.getD_some.{1} (And.intro @Option.isSome_some.{0} (And.intro @Option.isSome_some.{1} (And.intro @a_sl_hi (And.intro @a_sl_lo (And.intro @a_sl_lohi (And.intro @slM.eq_1 (And.intro @a_eqnil (And.intro @a_nenil (And.intro @a_bin2 (And.intro @a_bin_tt (And.intro @a_bin_ti (And.intro @a_bin_ts (And.intro @a_bin_it (And.intro @boolM_eql (And.intro @boolM_neq (And.intro @un_not (And.intro @un_neg (And.intro @tabN (And.intro @Nat.blt_eq (And.intro @nn0 (And.intro @Int.toNat_zero (And.intro @tabR (And.intro @Option.some.injEq.{0} (And.intro @Option.some.injEq.{1} (And.intro @exists_eq_left'.{0} (And.intro @exists_eq_left'.{1} (And.intro @exists_eq_left.{0} (And.intro @exists_eq_left.{1} (And.intro @oneOf_1 (And.intro @oneOf_2 (And.intro @oneOf_3 (And.intro @oneOf_0 (And.intro @put_push (And.intro @beq_true (And.intro @beq_false (And.intro @decide_not (And.intro @bd_eq (And.intro @bdM.eq_1 (And.intro @bdM.eq_2 (And.intro @bda_eq (And.intro @arrOf.eq_1 (And.intro @tabP (And.intro @aUn.eq_1 (And.intro @pb_xor (And.intro @pb_and (And.intro @pb_or (And.intro @pb_shl (And.intro @pb_shr (And.intro @pb_quo (And.intro @pb_rem (And.intro @a_nil (And.intro @a_eqnilp (And.intro @a_nenilp (And.intro @isPtrT.eq_1 (And.intro @put_push_eq (And.intro @put_push_lt (And.intro @lt_a1 (And.intro @lt_a2 (And.intro @lt_a3 (And.intro @lt_a4 (And.intro @lt_a5 (And.intro @lt_a6 (And.intro @lt_a7 (And.intro @res_cell (And.intro @a_conv (And.intro @a_idx_cs (And.intro @isStrT.eq_1 (And.intro @a_mkf (And.intro @aMakeFunc.eq_1 (And.intro @notYield.eq_1 (And.intro @notYield.eq_2 (And.intro @Bool.not_true (@Bool.not_false)))))))))))))))))))))))))))))))))))))))))))))))))))))))))))))))))))))))))))))))))))))))))))))))))))))))))))))))))))))))))))))))))))))))))))))))))))))))))))))))))))))))))))))))))))))))))))))))))))))))))))))))))))))))))))))))))))))))))))))))))))))))))))))))))))))))))))))))))))))))))))))))))))))))))))))))))))))))))))))))))))))
def cored0 := And.intro @kindOf.eq_1 (And.intro @WRegD_t (And.intro @WRegD_f (And.intro @WOpD_av (And.intro @WOpD_ae (And.intro @WOpD_s (And.intro @WOpD_l (And.intro @WOpD_r (And.intro @rdOf.eq_1 (And.intro @WDM_nil (And.intro @hold_nil (And.intro @hold_cons (And.intro @rdA.eq_1 (And.intro @rdA.eq_2 (And.intro @rdA.eq_3 (And.intro @rdA.eq_4 (And.intro @same_sl (And.intro @same_int (And.intro @same_bool (And.intro @same_str (And.intro @same_agg (And.intro @same_one (And.intro @List.zip_cons_cons.{0,0} (And.intro @List.zip_cons_cons.{0,1} (And.intro @List.zip_cons_cons.{1,0} (And.intro @List.zip_cons_cons.{1,1} (And.intro @List.zip_nil_left.{0,0} (And.intro @List.zip_nil_left.{0,1} (And.intro @List.zip_nil_left.{1,0} (And.intro @List.zip_nil_left.{1,1} (And.intro @beq_self_eq_true.{0} (@beq_self_eq_true.{1})))))))))))))))))))))))))))))))
theorem corem : type_of% corem0 := corem0
theorem cored : type_of% cored0 := cored0
def core0 := And.intro corem (And.intro @WB_cond_s (And.intro @put.eq_1 (And.intro @ldL.eq_1 (And.intro @WB_label (And.intro @List.nil_append.{0} (And.intro @List.nil_append.{1} (And.intro @List.drop_zero.{0} (And.intro @List.drop_zero.{1} (And.intro @List.take_zero.{0} (@List.take_zero.{1}))))))))))
theorem core : type_of% core0 := core0
def dw01 := And.intro @List.getElem?_toArray.{0} (And.intro @List.getElem?_cons_zero.{0} (And.intro @List.getElem?_cons_succ.{0} (And.intro @WRegDO.eq_1 (And.intro @WRegDO.eq_2 (@kindOf.eq_1)))))
theorem dw1 : type_of% dw01 := dw01
def dw02 := And.intro @dropR_nil (And.intro @dropR_cons (And.intro @List.size_toArray.{0} (And.intro @List.length_cons.{0} (And.intro @List.length_nil.{0} (And.intro @waits_eq (And.intro @Nat.zero_add (And.intro @Nat.zero_ne_one (And.intro @decide_true (And.intro @decide_false (And.intro @cond_true.{0} (And.intro @cond_true.{1} (And.intro @cond_false.{0} (@cond_false.{1})))))))))))))
theorem dw2 : type_of% dw02 := dw02
end Go.Proofs.YtkgbeihcepociaaDoor.Ex
end

section

namespace Go.Proofs
open Go.Shelf
def Tryd.lays189_ren : Go.Shelf.Ren := ⟨fun | 189 => 36 | 125 => 52 | 257 => 51 | 128 => 70 | 129 => 71 | 294 => 61 | 295 => 62 | 296 => 63 | 297 => 64 | 298 => 65 | 299 => 66 | 216 => 67 | 300 => 68 | 301 => 69 | 328 => 82 | 329 => 83 | 330 => 84 | 331 => 85 | 332 => 86 | 215 => 87 | 343 => 94 | n => n, fun | 28 => 31 | 3 => 3 | 46 => 76 | 0 => 0 | 51 => 27 | 53 => 86 | 4 => 4 | 183 => 89 | 182 => 88 | 131 => 43 | 5 => 5 | 9 => 9 | 218 => 107 | 222 => 111 | 228 => 136 | 229 => 137 | n => n, fun | n => n⟩
theorem Tryd.lays189 : Go.Proofs.Lays.n189 Tryd.prog Tryd.lays189_ren := {
  mixed := by kernel_rfl,
  f125 := Tryd.func52.trans (congrArg some (by kernel_rfl)),
  f128 := Tryd.func70.trans (congrArg some (by kernel_rfl)),
  f129 := Tryd.func71.trans (congrArg some (by kernel_rfl)),
  f189 := Tryd.func36.trans (congrArg some (by kernel_rfl)),
  f215 := Tryd.func87.trans (congrArg some (by kernel_rfl)),
  f216 := Tryd.func67.trans (congrArg some (by kernel_rfl)),
  f257 := Tryd.func51.trans (congrArg some (by kernel_rfl)),
  f294 := Tryd.func61.trans (congrArg some (by kernel_rfl)),
  f295 := Tryd.func62.trans (congrArg some (by kernel_rfl)),
  f296 := Tryd.func63.trans (congrArg some (by kernel_rfl)),
  f297 := Tryd.func64.trans (congrArg some (by kernel_rfl)),
  f298 := Tryd.func65.trans (congrArg some (by kernel_rfl)),
  f299 := Tryd.func66.trans (congrArg some (by kernel_rfl)),
  f300 := Tryd.func68.trans (congrArg some (by kernel_rfl)),
  f301 := Tryd.func69.trans (congrArg some (by kernel_rfl)),
  f328 := Tryd.func82.trans (congrArg some (by kernel_rfl)),
  f329 := Tryd.func83.trans (congrArg some (by kernel_rfl)),
  f330 := Tryd.func84.trans (congrArg some (by kernel_rfl)),
  f331 := Tryd.func85.trans (congrArg some (by kernel_rfl)),
  f332 := Tryd.func86.trans (congrArg some (by kernel_rfl)),
  f343 := Tryd.func94.trans (congrArg some (by kernel_rfl)),
  t0 := Tryd.underlying0,
  a0 := Tryd.isAgg0,
  z0 := Tryd.sizeOf0,
  v0 := Tryd.zeroValue0,
  t3 := Tryd.underlying3,
  a3 := Tryd.isAgg3,
  z3 := Tryd.sizeOf3,
  v3 := Tryd.zeroValue3,
  t4 := Tryd.underlying4,
  a4 := Tryd.isAgg4,
  z4 := Tryd.sizeOf4,
  v4 := Tryd.zeroValue4,
  t5 := Tryd.underlying5,
  a5 := Tryd.isAgg5,
  z5 := Tryd.sizeOf5,
  v5 := Tryd.zeroValue5,
  t9 := Tryd.underlying9,
  a9 := Tryd.isAgg9,
  z9 := Tryd.sizeOf9,
  v9 := Tryd.zeroValue9,
  t28 := Tryd.underlying31,
  a28 := Tryd.isAgg31,
  z28 := Tryd.sizeOf31,
  v28 := Tryd.zeroValue31,
  t46 := Tryd.underlying76,
  a46 := Tryd.isAgg76,
  z46 := Tryd.sizeOf76,
  v46 := Tryd.zeroValue76,
  t51 := Tryd.underlying27,
  a51 := Tryd.isAgg27,
  z51 := Tryd.sizeOf27,
  v51 := Tryd.zeroValue27,
  t53 := Tryd.underlying86,
  a53 := Tryd.isAgg86,
  z53 := Tryd.sizeOf86,
  v53 := Tryd.zeroValue86,
  t131 := Tryd.underlying43,
  a131 := Tryd.isAgg43,
  z131 := Tryd.sizeOf43,
  v131 := Tryd.zeroValue43,
  t182 := Tryd.underlying88,
  a182 := Tryd.isAgg88,
  z182 := Tryd.sizeOf88,
  v182 := Tryd.zeroValue88,
  t183 := Tryd.underlying89,
  a183 := Tryd.isAgg89,
  z183 := Tryd.sizeOf89,
  v183 := Tryd.zeroValue89,
  t218 := Tryd.underlying107,
  a218 := Tryd.isAgg107,
  z218 := Tryd.sizeOf107,
  v218 := Tryd.zeroValue107,
  t222 := Tryd.underlying111,
  a222 := Tryd.isAgg111,
  z222 := Tryd.sizeOf111,
  v222 := Tryd.zeroValue111,
  t228 := Tryd.underlying136,
  a228 := Tryd.isAgg136,
  z228 := Tryd.sizeOf136,
  v228 := Tryd.zeroValue136,
  t229 := Tryd.underlying137,
  a229 := Tryd.isAgg137,
  z229 := Tryd.sizeOf137,
  v229 := Tryd.zeroValue137 }
end Go.Proofs
end

section

set_option linter.unusedSimpArgs false
set_option linter.unusedVariables false
namespace Go.Proofs.YtkgbeihcepociaaDoor.Ex
open Go Go.RowKit
variable {P : Program} {ρ : Nat → Value} {fl : Nat}
mutual
theorem rel.back {μ μ1 : Mu} {w w1 : World} (hm : More μ μ1) : ∀ (a : AV) (v0 v : Value), rel ρ μ w a v0 → rel ρ μ1 w1 a v → rel ρ μ w1 a v
  | .lit _, _, _, _, h => by unfold rel at h ⊢; exact h
  | .ptr b off, _, _, h0, h => by
    unfold rel at h0 h ⊢
    obtain ⟨r, base, e0, _⟩ := h0
    obtain ⟨r', base', e1, e2⟩ := h
    rw [hm _ _ e0] at e1
    cases e1
    exact ⟨r, base, e0, e2⟩
  | .sl b off len cap, _, _, h0, h => by
    unfold rel at h0 h ⊢
    rcases h with ⟨r', base', o', c', e1, e2, e3, e4⟩ | h
    · rcases h0 with ⟨r, base, o, c, e0, _⟩ | ⟨rfl, rfl, _⟩
      · rw [hm _ _ e0] at e1
        cases e1
        exact .inl ⟨_, _, o', c', e0, e2, e3, e4⟩
      · obtain ⟨rfl, _, _⟩ := e4
        exact .inr ⟨rfl, rfl, _, e2⟩
    · exact .inr h
  | .mp b, _, _, h0, h => by
    unfold rel at h0 h ⊢
    obtain ⟨r, e0, _⟩ := h0
    obtain ⟨r', e1, e2⟩ := h
    rw [hm _ _ e0] at e1
    cases e1
    exact ⟨r, e0, e2⟩
  | .agg l, _, _, h0, h => by
    unfold rel at h0 h ⊢
    obtain ⟨l0, _, h0⟩ := h0
    obtain ⟨l', e, h⟩ := h
    exact ⟨l', e, rels.back hm l l0 l' h0 h⟩
  | .tup l, _, _, h0, h => by
    unfold rel at h0 h ⊢
    obtain ⟨l0, _, h0⟩ := h0
    obtain ⟨l', e, h⟩ := h
    exact ⟨l', e, rels.back hm l l0 l' h0 h⟩
  | .ifc t a, _, _, h0, h => by
    unfold rel at h0 h ⊢
    obtain ⟨u0, _, h0⟩ := h0
    obtain ⟨u, e, h⟩ := h
    exact ⟨u, e, rel.back hm a u0 u h0 h⟩
  | .fn f a b, _, _, h0, h => by
    unfold rel at h0 h ⊢
    obtain ⟨f0, a0, b0, _, g0, h1, h2⟩ := h0
    obtain ⟨f', a', b', e, g, h3, h4⟩ := h
    refine ⟨f', a', b', e, ?_, rels.back hm a a0 a' h1 h3, rels.back hm b b0 b' h2 h4⟩
    cases f <;> first
      | exact g
      | (obtain ⟨r, e0, _⟩ := g0
         obtain ⟨r', e1, e2⟩ := g
         rw [hm _ _ e0] at e1
         cases e1
         exact ⟨r, e0, e2⟩)
  | .ext _, _, _, _, h => by unfold rel at h ⊢; exact h
  | .any, _, _, _, h => by unfold rel at h ⊢; exact h
  | .rng _ _ _, _, _, _, h => by unfold rel at h ⊢; exact h
theorem rels.back {μ μ1 : Mu} {w w1 : World} (hm : More μ μ1) : ∀ (a : List AV) (v0 v : List Value), rels ρ μ w a v0 → rels ρ μ1 w1 a v → rels ρ μ w1 a v
  | [], _, _, _, h => by unfold rels at h ⊢; exact h
  | x :: xs, _, _, h0, h => by
    unfold rels at h0 h ⊢
    obtain ⟨a0, r0, _, p0, q0⟩ := h0
    obtain ⟨a, r1, e, p, q⟩ := h
    exact ⟨a, r1, e, rel.back hm x a0 a p0 p, rels.back hm xs r0 r1 q0 q⟩
end
theorem window.back {μ μ1 : Mu} {w w1 : World} (hm : More μ μ1) {base base1 : Nat} {l : List AV} {c0 c1 : Array Value} (h0 : window ρ μ w base l c0) (h1 : window ρ μ1 w1 base1 l c1) : window ρ μ w1 base1 l c1 :=
  ⟨h1.1, fun i x hx => by
    obtain ⟨v0, _, a⟩ := h0.2 i x hx
    obtain ⟨v, e, b⟩ := h1.2 i x hx
    exact ⟨v, e, rel.back hm x v0 v a b⟩⟩
theorem entsRel.back {μ μ1 : Mu} {w w1 : World} (hm : More μ μ1) : ∀ {l : List AE} {m0 m1 : List MapEntry}, entsRel ρ μ w l m0 → entsRel ρ μ1 w1 l m1 → entsRel ρ μ w1 l m1
  | [], _, _, _, h => h
  | a :: r, _, _, h0, h => by
    obtain ⟨e0, es0, _, ⟨_, _, p0, _⟩, q0⟩ := h0
    obtain ⟨e, es, rfl, ⟨g1, g2, p, g4⟩, q⟩ := h
    exact ⟨e, es, rfl, ⟨g1, g2, rel.back hm _ _ _ p0 p, g4⟩, entsRel.back hm q0 q⟩
theorem objRel.back {μ μ1 : Mu} {w w1 : World} (hm : More μ μ1) {base base1 : Nat} {ab : AB} {o0 o1 : Obj} (h0 : objRel P ρ μ w base ab o0) (h1 : objRel P ρ μ1 w1 base1 ab o1) : objRel P ρ μ w1 base1 ab o1 := by
  cases ab with
  | cells l e =>
    obtain ⟨c0, _, a, _⟩ := h0
    obtain ⟨c1, e1, b, c⟩ := h1
    exact ⟨c1, e1, a.back hm b, c⟩
  | frz l e =>
    obtain ⟨c0, _, _, a⟩ := h0
    obtain ⟨c1, fz, e1, b⟩ := h1
    exact ⟨c1, fz, e1, a.back hm b⟩
  | map es clock =>
    obtain ⟨m0, _, _, a⟩ := h0
    obtain ⟨m1, e1, e2, b⟩ := h1
    exact ⟨m1, e1, e2, a.back hm b⟩
  | loop a =>
    obtain ⟨l0, _, _, _, _, _, q0, _⟩ := h0
    obtain ⟨l1, e1, e2, p1, p2, p3, q1, p4, p5, p6⟩ := h1
    exact ⟨l1, e1, e2, p1, p2, p3, rels.back hm _ _ _ q0 q1, p4, p5, p6⟩
  | iter m since seen last =>
    obtain ⟨_, m0, _, q0⟩ := h0
    obtain ⟨e0, m1, e1, q1⟩ := h1
    refine ⟨e0, m1, e1, ?_⟩
    cases m with
    | none => exact q1
    | some b =>
      obtain ⟨r0, g0, _⟩ := q0
      obtain ⟨r1, g1, g2⟩ := q1
      rw [hm _ _ g0] at g1
      cases g1
      exact ⟨r0, g0, g2⟩
  | defd => exact h1
  | gone => trivial
/-- New blocks of which nobody knows are forgotten. -/
theorem EffL.forget {μ μ1 : Mu} {h h1 : List AB} {w w1 : World} (hr : HRL P ρ fl μ h w) (q : EffL P ρ fl μ h w μ1 h1 w1) (hl : ∀ b, b < h.length → h1[b]? = h[b]?) : EffL P ρ fl μ h w μ h w1 := by
  refine ⟨More.refl μ, Nat.le_refl _, fun b x e1 e2 => (by rw [e1] at e2; cases e2), fun _ _ _ => rfl, fun _ e => e, fun _ _ _ e => e, q.grows, q.size, fun b r base e1 e2 => (by rw [e1] at e2; cases e2), q.rest, q.same, ?_⟩
  refine ⟨q.hr.floor, hr.dom, fun b r base ab e1 e2 => ?_, hr.inj, hr.pin.more (More.refl μ) q.grows⟩
  have hb := hr.dom b _ e1
  obtain ⟨p1, p2, o1, p3, p4⟩ := q.hr.obj b r base ab (q.more _ _ e1) (by rw [hl b hb]; exact e2)
  obtain ⟨_, _, o0, _, g4⟩ := hr.obj b r base ab e1 e2
  exact ⟨p1, p2, o1, p3, g4.back q.more p4⟩
theorem Eff.forget {μ μ1 : Mu} {h h1 : AH} {w w1 : World} (hr : HR P ρ fl μ h w) (q : Eff P ρ fl μ h w μ1 h1 w1) (he : Ext h.n h h1) : Eff P ρ fl μ h w μ h w1 :=
  EffL.forget hr q fun b hb => by
    rw [L_at, L_at]
    exact he.2 b (by rw [show h.L.length = h.n from vL_n _ _] at hb; exact hb)
theorem sums_ok00 (ρ : Nat → Value) (fl : Nat) : SumsOK P ρ fl S00 := by
  intro f g args h v h' hs
  cases hs
/-- A contract that gives a plain value and changes nothing that is seen. -/
theorem sum_of_wc {T : TT} {S : Sums} (hT : TT.Sound P T) (hNG : NoNG P) (hMix : P.follows .mixedOrders = true) (hS : SumsOK P ρ fl S) {f : FuncId} {args : List AV} {h : AH} {x : Value} (hx : scal x = true)
    (hw : WC P T S f args h fun r h' => Ext h.n h h' ∧ r = .lit x) {μ : Mu} {w : World} {args' : List Value} (hr : HR P ρ fl μ h w) (ha : rels ρ μ w args args') :
    Calls P f args'.toArray w fun e w' => ∃ μ' v', e = .returned v' ∧ Eff P ρ fl μ h w μ' h w' ∧ rel ρ μ' w' (.lit x) v' := by
  obtain ⟨n, o, h1, hex, v, cm, rfl, he, rfl⟩ := hw
  intro cs
  obtain ⟨_, h2⟩ := ex_ok hT hNG hMix hS n _ _ _ _ hex
  obtain ⟨_, μ', w', f', cs', q1, q2, q3, q4⟩ := h2 _ w cs args' hr ha trivial
  cases cm with
  | some m => rename_i h3; cases h3
  | none =>
    have q4 : cs' = cs := q4
    subst q4
    obtain ⟨r1, r2, r3, r4, fn, v', r5, r6, r7⟩ := q3
    exact ⟨.returned v', w', f', ⟨μ, v', rfl, q1.forget hr he, by rw [rel_lit_inv r7]; exact rel_lit hx⟩, q2, r1, r4, r2, r3, fn, by rw [r1]; exact r5, r6⟩
end Go.Proofs.YtkgbeihcepociaaDoor.Ex
end
