/- The abstract machine's values and heap, held against the real ones. -/
import Derived.Test.YtfchbkmegicfoaaGreatEx
set_option linter.unusedSimpArgs false
set_option linter.unusedVariables false
namespace Go.Proofs.YtfchbkmegicfoaaGreat.Ex
open Go

/-- Which real block an abstract one is, and from which cell on. -/
abbrev Mu := Nat → Option (Nat × Nat)

def capRel (w : World) (r o len : Nat) : Cap → Nat → Prop
  | .kn k, c => c = k ∧ len ≤ k ∧ k ≤ maxLen
  | .un z, c => len ≤ c ∧ c ≤ maxLen ∧ 0 < z ∧ ∃ cur e fz, w.heap[r]? = some (.cells cur e fz) ∧ o + c * z ≤ cur.size

def fnRel (μ : Mu) : Fn → Fn → Prop
  | .yield l, f' => ∃ r, μ l = some (r, 0) ∧ f' = .yield r
  | f, f' => f' = f

mutual
def rel (ρ : Nat → Value) (μ : Mu) (w : World) : AV → Value → Prop
  | .lit v, v' => v' = v ∧ scal v = true
  | .ptr b off, v' => ∃ r base, μ b = some (r, base) ∧ v' = .pointer (some ⟨r, base + off, none⟩)
  | .sl b off len cap, v' => ∃ r base o c, μ b = some (r, base) ∧ v' = .slice (some ⟨r, o, none⟩) len c ∧ (c = 0 ∨ o = base + off) ∧ capRel w r (base + off) len cap c
  | .mp b, v' => ∃ r, μ b = some (r, 0) ∧ v' = .map (some r)
  | .agg l, v' => ∃ l', v' = .agg l'.toArray ∧ rels ρ μ w l l'
  | .tup l, v' => ∃ l', v' = .tuple l'.toArray ∧ rels ρ μ w l l'
  | .ifc t v, v' => ∃ u, v' = .iface t u ∧ rel ρ μ w v u
  | .fn f first caps, v' => ∃ f' a b, v' = .func f' a.toArray b.toArray ∧ fnRel μ f f' ∧ rels ρ μ w first a ∧ rels ρ μ w caps b
  | .ext i, v' => v' = ρ i ∧ v'.oneCell' = true
  | .rng i lo hi, v' => v' = ρ i ∧ ∃ n : Int, v' = .int .i64 n ∧ (∀ a, lo = some a → a ≤ n) ∧ (∀ b, hi = some b → n ≤ b)
def rels (ρ : Nat → Value) (μ : Mu) (w : World) : List AV → List Value → Prop
  | [], l' => l' = []
  | x :: xs, l' => ∃ v vs, l' = v :: vs ∧ rel ρ μ w x v ∧ rels ρ μ w xs vs
end

variable {ρ : Nat → Value}

/-- Rows keep their sizes. -/
def Grows (w w' : World) : Prop := ∀ (r : Nat) (cur : Array Value) (e : TypeId) (fz : Nat × Nat), w.heap[r]? = some (.cells cur e fz) → ∃ (cur' : Array Value) (e' : TypeId) (fz' : Nat × Nat), w'.heap[r]? = some (.cells cur' e' fz') ∧ cur'.size = cur.size

theorem Grows.refl (w : World) : Grows w w := fun r cur e fz h => ⟨cur, e, fz, h, rfl⟩
theorem Grows.trans {a b c : World} (h : Grows a b) (k : Grows b c) : Grows a c := fun r cur e fz x => by
  obtain ⟨c1, e1, f1, h1, s1⟩ := h r cur e fz x
  obtain ⟨c2, e2, f2, h2, s2⟩ := k r c1 e1 f1 h1
  exact ⟨c2, e2, f2, h2, s2.trans s1⟩

/-- More is mapped. -/
def More (μ μ' : Mu) : Prop := ∀ b x, μ b = some x → μ' b = some x
theorem More.refl (μ : Mu) : More μ μ := fun _ _ h => h
theorem More.trans {a b c : Mu} (h : More a b) (k : More b c) : More a c := fun x y z => k x y (h x y z)

theorem capRel.mono {w w' : World} {r o len c : Nat} {cap : Cap} (hg : Grows w w') (h : capRel w r o len cap c) : capRel w' r o len cap c := by
  cases cap with
  | kn k => exact h
  | un z =>
    obtain ⟨h1, h2, h3, cur, e, fz, h4, h5⟩ := h
    obtain ⟨cur', e', fz', h6, h7⟩ := hg _ _ _ _ h4
    exact ⟨h1, h2, h3, cur', e', fz', h6, by omega⟩

theorem fnRel.mono {μ μ' : Mu} {f f' : Fn} (hm : More μ μ') (h : fnRel μ f f') : fnRel μ' f f' := by
  cases f <;> first | exact h | (obtain ⟨r, h1, h2⟩ := h; exact ⟨r, hm _ _ h1, h2⟩)

mutual
theorem rel.mono {μ μ' : Mu} {w w' : World} (hm : More μ μ') (hg : Grows w w') : ∀ (a : AV) (v : Value), rel ρ μ w a v → rel ρ μ' w' a v
  | .lit v, v', h => by unfold rel at h ⊢; exact h
  | .ptr b off, v', h => by
    unfold rel at h ⊢
    obtain ⟨r, base, h1, h2⟩ := h
    exact ⟨r, base, hm _ _ h1, h2⟩
  | .sl b off len cap, v', h => by
    unfold rel at h ⊢
    obtain ⟨r, base, o, c, h1, h2, h3, h4⟩ := h
    exact ⟨r, base, o, c, hm _ _ h1, h2, h3, h4.mono hg⟩
  | .mp b, v', h => by
    unfold rel at h ⊢
    obtain ⟨r, h1, h2⟩ := h
    exact ⟨r, hm _ _ h1, h2⟩
  | .agg l, v', h => by
    unfold rel at h ⊢
    obtain ⟨l', h1, h2⟩ := h
    exact ⟨l', h1, rels.mono hm hg l l' h2⟩
  | .tup l, v', h => by
    unfold rel at h ⊢
    obtain ⟨l', h1, h2⟩ := h
    exact ⟨l', h1, rels.mono hm hg l l' h2⟩
  | .ifc t v, v', h => by
    unfold rel at h ⊢
    obtain ⟨u, h1, h2⟩ := h
    exact ⟨u, h1, rel.mono hm hg v u h2⟩
  | .fn f first caps, v', h => by
    unfold rel at h ⊢
    obtain ⟨f', a, b, h1, h2, h3, h4⟩ := h
    exact ⟨f', a, b, h1, h2.mono hm, rels.mono hm hg first a h3, rels.mono hm hg caps b h4⟩
  | .ext i, v', h => by unfold rel at h ⊢; exact h
  | .rng i lo hi, v', h => by unfold rel at h ⊢; exact h
theorem rels.mono {μ μ' : Mu} {w w' : World} (hm : More μ μ') (hg : Grows w w') : ∀ (l : List AV) (l' : List Value), rels ρ μ w l l' → rels ρ μ' w' l l'
  | [], l', h => by unfold rels at h ⊢; exact h
  | x :: xs, l', h => by
    unfold rels at h ⊢
    obtain ⟨v, vs, h1, h2, h3⟩ := h
    exact ⟨v, vs, h1, rel.mono hm hg x v h2, rels.mono hm hg xs vs h3⟩
end

section
variable {μ : Mu} {w : World}

theorem rels_nil : rels ρ μ w [] [] := by unfold rels; rfl
theorem rels_cons {x : AV} {v : Value} {xs : List AV} {vs : List Value} (h : rel ρ μ w x v) (k : rels ρ μ w xs vs) : rels ρ μ w (x :: xs) (v :: vs) := by
  unfold rels
  exact ⟨v, vs, rfl, h, k⟩
theorem rels_cons_inv {x : AV} {xs : List AV} {l' : List Value} (h : rels ρ μ w (x :: xs) l') : ∃ v vs, l' = v :: vs ∧ rel ρ μ w x v ∧ rels ρ μ w xs vs := by
  unfold rels at h
  exact h
theorem rels_nil_inv {l' : List Value} (h : rels ρ μ w [] l') : l' = [] := by
  unfold rels at h
  exact h

theorem rels_length : ∀ {l : List AV} {l' : List Value}, rels ρ μ w l l' → l'.length = l.length
  | [], l', h => by rw [rels_nil_inv h]; rfl
  | x :: xs, l', h => by
    obtain ⟨v, vs, rfl, _, h2⟩ := rels_cons_inv h
    rw [List.length_cons, List.length_cons, rels_length h2]

theorem rels_get : ∀ {l : List AV} {l' : List Value} {i : Nat} {x : AV}, rels ρ μ w l l' → l[i]? = some x → ∃ v, l'[i]? = some v ∧ rel ρ μ w x v
  | [], l', i, x, h, hx => by simp at hx
  | y :: ys, l', i, x, h, hx => by
    obtain ⟨v, vs, rfl, h1, h2⟩ := rels_cons_inv h
    cases i with
    | zero => simp only [List.getElem?_cons_zero, Option.some.injEq] at hx; subst hx; exact ⟨v, rfl, h1⟩
    | succ i => simp only [List.getElem?_cons_succ] at hx ⊢; exact rels_get h2 hx

theorem rels_of_get : ∀ {l : List AV} {l' : List Value}, l'.length = l.length → (∀ (i : Nat) (x : AV), l[i]? = some x → ∃ v, l'[i]? = some v ∧ rel ρ μ w x v) → rels ρ μ w l l'
  | [], l', hl, _ => by rw [List.eq_nil_of_length_eq_zero hl]; exact rels_nil
  | x :: xs, l', hl, h => by
    cases l' with
    | nil => simp at hl
    | cons v vs =>
      obtain ⟨u, h1, h2⟩ := h 0 x rfl
      simp only [List.getElem?_cons_zero, Option.some.injEq] at h1
      subst h1
      exact rels_cons h2 (rels_of_get (by simpa using hl) (fun i y hy => by
        obtain ⟨u, h3, h4⟩ := h (i + 1) y (by simpa using hy)
        exact ⟨u, by simpa using h3, h4⟩))

theorem rels_append {l m : List AV} {l' m' : List Value} (h : rels ρ μ w l l') (k : rels ρ μ w m m') : rels ρ μ w (l ++ m) (l' ++ m') := by
  induction l generalizing l' with
  | nil => rw [rels_nil_inv h]; exact k
  | cons x xs ih =>
    obtain ⟨v, vs, rfl, h1, h2⟩ := rels_cons_inv h
    exact rels_cons h1 (ih h2)

theorem rels_take {l : List AV} {l' : List Value} (n : Nat) (h : rels ρ μ w l l') : rels ρ μ w (l.take n) (l'.take n) := by
  induction l generalizing l' n with
  | nil => rw [rels_nil_inv h]; simp; exact rels_nil
  | cons x xs ih =>
    obtain ⟨v, vs, rfl, h1, h2⟩ := rels_cons_inv h
    cases n with
    | zero => exact rels_nil
    | succ n => exact rels_cons h1 (ih n h2)

theorem rels_drop {l : List AV} {l' : List Value} (n : Nat) (h : rels ρ μ w l l') : rels ρ μ w (l.drop n) (l'.drop n) := by
  induction l generalizing l' n with
  | nil => rw [rels_nil_inv h]; simp; exact rels_nil
  | cons x xs ih =>
    obtain ⟨v, vs, rfl, h1, h2⟩ := rels_cons_inv h
    cases n with
    | zero => exact rels_cons h1 h2
    | succ n => exact ih n h2

theorem rels_set {l : List AV} {l' : List Value} (i : Nat) {x : AV} {v : Value} (h : rels ρ μ w l l') (hx : rel ρ μ w x v) : rels ρ μ w (l.set i x) (l'.set i v) := by
  induction l generalizing l' i with
  | nil => rw [rels_nil_inv h]; exact rels_nil
  | cons y ys ih =>
    obtain ⟨u, us, rfl, h1, h2⟩ := rels_cons_inv h
    cases i with
    | zero => exact rels_cons hx h2
    | succ i => exact rels_cons h1 (ih i h2)

theorem rels_replicate (n : Nat) {x : AV} {v : Value} (hx : rel ρ μ w x v) : rels ρ μ w (List.replicate n x) (List.replicate n v) := by
  induction n with
  | zero => exact rels_nil
  | succ n ih => exact rels_cons hx ih

theorem rel_undef : rel ρ μ w aundef undef := by
  unfold aundef rel
  exact ⟨[], rfl, rels_nil⟩

theorem rels_getD {l : List AV} {l' : List Value} (i : Nat) (h : rels ρ μ w l l') : rel ρ μ w (l.getD i aundef) (l'.getD i undef) := by
  rw [List.getD_eq_getElem?_getD, List.getD_eq_getElem?_getD]
  cases hx : l[i]? with
  | none =>
    have : l'[i]? = none := by
      rw [List.getElem?_eq_none_iff] at hx ⊢
      rw [rels_length h]
      exact hx
    rw [this]
    exact rel_undef
  | some x =>
    obtain ⟨v, h1, h2⟩ := rels_get h hx
    rw [h1]
    exact h2

/-! Plain values. -/

theorem ofScal_rel {v : Value} {a : AV} (h : ofScal v = some a) : rel ρ μ w a v := by
  unfold ofScal at h
  split at h
  · obtain rfl := Option.some.inj h
    unfold rel
    exact ⟨rfl, by assumption⟩
  · cases h

theorem ofScals_rel : ∀ {l : List Value} {xs : List AV}, ofScals l = some xs → rels ρ μ w xs l
  | [], xs, h => by simp only [ofScals, Option.some.injEq] at h; subst h; exact rels_nil
  | v :: r, xs, h => by
    unfold ofScals at h
    split at h
    · rename_i x y hx hy
      obtain rfl := Option.some.inj h
      exact rels_cons (ofScal_rel hx) (ofScals_rel hy)
    · cases h

theorem ofVal1_rel {v : Value} {a : AV} (h : ofVal1 v = some a) : rel ρ μ w a v := by
  unfold ofVal1 at h
  split at h
  · rename_i cs
    simp only [Option.map_eq_some_iff] at h
    obtain ⟨l, h1, rfl⟩ := h
    unfold rel
    exact ⟨cs.toList, by simp, ofScals_rel h1⟩
  · exact ofScal_rel h

theorem ofVal1s_rel : ∀ {l : List Value} {xs : List AV}, ofVal1s l = some xs → rels ρ μ w xs l
  | [], xs, h => by simp only [ofVal1s, Option.some.injEq] at h; subst h; exact rels_nil
  | v :: r, xs, h => by
    unfold ofVal1s at h
    split at h
    · rename_i x y hx hy
      obtain rfl := Option.some.inj h
      exact rels_cons (ofVal1_rel hx) (ofVal1s_rel hy)
    · cases h

theorem ofVal_rel {v : Value} {a : AV} (h : ofVal v = some a) : rel ρ μ w a v := by
  unfold ofVal at h
  split at h
  · rename_i vs
    simp only [Option.map_eq_some_iff] at h
    obtain ⟨l, h1, rfl⟩ := h
    unfold rel
    exact ⟨vs.toList, by simp, ofVal1s_rel h1⟩
  · rename_i t u
    simp only [Option.map_eq_some_iff] at h
    obtain ⟨x, h1, rfl⟩ := h
    unfold rel
    exact ⟨u, rfl, ofVal1_rel h1⟩
  · exact ofVal1_rel h

theorem toScals_rel : ∀ {l : List AV} {vs l' : List Value}, toScals l = some vs → rels ρ μ w l l' → l' = vs
  | [], vs, l', h, k => by simp only [toScals, Option.some.injEq] at h; subst h; exact rels_nil_inv k
  | x :: r, vs, l', h, k => by
    cases x <;> simp only [toScals, Option.map_eq_some_iff, reduceCtorEq] at h
    obtain ⟨us, h1, rfl⟩ := h
    obtain ⟨u, us', rfl, k1, k2⟩ := rels_cons_inv k
    unfold rel at k1
    rw [k1.1, toScals_rel h1 k2]

theorem toScals_scal : ∀ {l : List AV} {vs l' : List Value}, toScals l = some vs → rels ρ μ w l l' → ∀ x ∈ vs, scal x = true
  | [], vs, l', h, k => by simp only [toScals, Option.some.injEq] at h; subst h; intro x hx; cases hx
  | x :: r, vs, l', h, k => by
    cases x <;> simp only [toScals, Option.map_eq_some_iff, reduceCtorEq] at h
    obtain ⟨us, h1, rfl⟩ := h
    obtain ⟨u, us', rfl, k1, k2⟩ := rels_cons_inv k
    unfold rel at k1
    intro y hy
    rcases List.mem_cons.1 hy with rfl | hy
    · exact k1.2
    · exact toScals_scal h1 k2 y hy

theorem toVal_rel {a : AV} {v v' : Value} (h : toVal a = some v) (k : rel ρ μ w a v') : v' = v := by
  unfold toVal at h
  split at h
  · obtain rfl := Option.some.inj h
    unfold rel at k
    exact k.1
  · simp only [Option.map_eq_some_iff] at h
    obtain ⟨l, h1, rfl⟩ := h
    unfold rel at k
    obtain ⟨l', rfl, k2⟩ := k
    rw [toScals_rel h1 k2]
  · obtain rfl := Option.some.inj h
    unfold rel at k
    obtain ⟨u, rfl, k2⟩ := k
    unfold rel at k2
    rw [k2.1]
  · simp only [Option.map_eq_some_iff] at h
    obtain ⟨l, h1, rfl⟩ := h
    unfold rel at k
    obtain ⟨u, rfl, k2⟩ := k
    unfold rel at k2
    obtain ⟨l', rfl, k3⟩ := k2
    rw [toScals_rel h1 k3]
  · cases h

theorem rel_lit {v : Value} (h : scal v = true) : rel ρ μ w (.lit v) v := by
  unfold rel
  exact ⟨rfl, h⟩

theorem rel_cells {a : AV} {v : Value} (h : rel ρ μ w a v) : rels ρ μ w a.cells v.cells.toList := by
  cases a with
  | agg l =>
    unfold rel at h
    obtain ⟨l', rfl, h2⟩ := h
    simpa [AV.cells, Value.cells] using h2
  | lit x =>
    have h' := h
    unfold rel at h
    obtain ⟨rfl, h2⟩ := h
    have : v.cells = #[v] := by cases v <;> first | rfl | (simp [scal] at h2)
    rw [this]
    exact rels_cons h' rels_nil
  | ptr b off =>
    have h' := h
    unfold rel at h
    obtain ⟨r, base, _, rfl⟩ := h
    exact rels_cons h' rels_nil
  | sl b off len cap =>
    have h' := h
    unfold rel at h
    obtain ⟨r, base, o, c, _, rfl, _⟩ := h
    exact rels_cons h' rels_nil
  | mp b =>
    have h' := h
    unfold rel at h
    obtain ⟨r, _, rfl⟩ := h
    exact rels_cons h' rels_nil
  | tup l =>
    have h' := h
    unfold rel at h
    obtain ⟨l', rfl, _⟩ := h
    exact rels_cons h' rels_nil
  | ifc t x =>
    have h' := h
    unfold rel at h
    obtain ⟨u, rfl, _⟩ := h
    exact rels_cons h' rels_nil
  | fn f a b =>
    have h' := h
    unfold rel at h
    obtain ⟨f', x, y, rfl, _⟩ := h
    exact rels_cons h' rels_nil
  | ext i =>
    have h' := h
    unfold rel at h
    obtain ⟨rfl, h2⟩ := h
    have : (ρ i).cells = #[ρ i] := by generalize ρ i = v at h2; cases v <;> first | rfl | (cases h2)
    rw [this]
    exact rels_cons h' rels_nil
  | rng i lo hi =>
    have h' := h
    unfold rel at h
    obtain ⟨_, n, rfl, _⟩ := h
    exact rels_cons h' rels_nil

theorem rel_one {a : AV} {v : Value} (h : rel ρ μ w a v) (ho : a.one = true) : v.oneCell' = true := by
  cases a with
  | agg l => cases ho
  | tup l => cases ho
  | lit x =>
    unfold rel at h
    obtain ⟨rfl, h2⟩ := h
    cases v <;> first | rfl | (simp [scal] at h2)
  | ptr b off =>
    unfold rel at h
    obtain ⟨r, base, _, rfl⟩ := h
    rfl
  | sl b off len cap =>
    unfold rel at h
    obtain ⟨r, base, o, c, _, rfl, _⟩ := h
    rfl
  | mp b =>
    unfold rel at h
    obtain ⟨r, _, rfl⟩ := h
    rfl
  | ifc t x =>
    unfold rel at h
    obtain ⟨u, rfl, _⟩ := h
    rfl
  | fn f a b =>
    unfold rel at h
    obtain ⟨f', x, y, rfl, _⟩ := h
    rfl
  | ext i =>
    unfold rel at h
    exact h.2
  | rng i lo hi =>
    unfold rel at h
    obtain ⟨_, n, rfl, _⟩ := h
    rfl

end
end Go.Proofs.YtfchbkmegicfoaaGreat.Ex
