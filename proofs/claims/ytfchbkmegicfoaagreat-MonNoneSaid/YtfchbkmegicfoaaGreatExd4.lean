/- Regions that draw their order: the orders that may be drawn. -/
import Derived.Test.YtfchbkmegicfoaaGreatExd3
set_option linter.unusedSimpArgs false
set_option linter.unusedVariables false
namespace Go.Proofs.YtfchbkmegicfoaaGreat.Ex
open Go Go.RowKit

variable {T : TT} {ops : Array Oper} {L : List Nat}

def on (listed : Array Bool) (i : Nat) : Prop := listed.getD i false = true

/-- What has come up is closed. -/
def ClosedX (ops : Array Oper) (listed : Array Bool) : Prop := ∀ j i, Direct ops j i → on listed i → on listed j

theorem ClosedX.before {listed : Array Bool} (hc : ClosedX ops listed) {j i : Nat} (hb : Before ops j i) (hi : on listed i) : on listed j := by
  induction hb with
  | one hd => exact hc _ _ hd hi
  | step _ hd ih => exact ih (hc _ _ hd hi)

def ReadyX (ops : Array Oper) (listed : Array Bool) (i : Nat) : Prop := i < listed.size ∧ ¬ on listed i ∧ i < ops.size ∧ ∀ j, Direct ops j i → on listed j

theorem ready_X {listed : Array Bool} {i : Nat} (hr : i ∈ Region.ready .any ops listed) : ReadyX ops listed i := by
  obtain ⟨h1, o, ho, h2⟩ := mem_ready.1 hr
  have hlt : i < listed.size := by
    rcases Nat.lt_or_ge i listed.size with h' | h'
    · exact h'
    · simp [Array.getElem?_eq_none h'] at h1
  refine ⟨hlt, fun hh => ?_, (Array.getElem?_eq_some_iff.1 ho).1, fun j hd => ?_⟩
  · simp only [on] at hh
    simp [hlt] at h1 hh
    rw [h1] at hh
    cases hh
  · obtain ⟨o', e, g1, g2, g3, g4⟩ := hd
    rw [ho] at g1
    obtain rfl := Option.some.inj g1
    subst g4
    exact h2 e (by simpa using g2) g3

theorem X_ready {listed : Array Bool} {i : Nat} (hr : ReadyX ops listed i) : i ∈ Region.ready .any ops listed := by
  obtain ⟨h1, h2, h3, h4⟩ := hr
  refine mem_ready.2 ⟨?_, ops[i], Array.getElem?_eq_getElem h3, fun e he hb => h4 e.on ⟨ops[i], e, Array.getElem?_eq_getElem h3, by simpa using he, hb, rfl⟩⟩
  simp only [on] at h2
  simp [h1] at h2 ⊢
  exact h2

theorem ReadyX.before {listed : Array Bool} {i j : Nat} (hc : ClosedX ops listed) (hr : ReadyX ops listed i) (hb : Before ops j i) : on listed j := by
  cases hb with
  | one hd => exact hr.2.2.2 _ hd
  | step hb hd => exact hc.before hb (hr.2.2.2 _ hd)

theorem on_set {listed : Array Bool} {i j : Nat} (hi : i < listed.size) : on (listed.setIfInBounds i true) j ↔ on listed j ∨ j = i := by
  simp only [on]
  by_cases hij : i = j
  · subst hij
    simp [hi]
  · rw [getD_set_ne false hij]
    constructor
    · exact .inl
    · rintro (h | h)
      · exact h
      · exact absurd h.symm hij

theorem ClosedX.set {listed : Array Bool} {i : Nat} (hc : ClosedX ops listed) (hr : ReadyX ops listed i) : ClosedX ops (listed.setIfInBounds i true) := by
  intro j k hd hk
  rw [on_set hr.1] at hk ⊢
  rcases hk with hk | rfl
  · exact .inl (hc j k hd hk)
  · exact .inl (hr.2.2.2 j hd)

theorem Ord.before (ho : Ord T ops L) {a b : Nat} (hb : Before ops a b) : ∀ {pre post : List Nat}, L = pre ++ b :: post → a ∈ pre := by
  induction hb with
  | one hd => intro pre post h; exact ho.lin pre _ post h _ hd
  | step hb hd ih =>
    rename_i k i
    intro pre post h
    have h1 := ho.lin pre _ post h _ hd
    obtain ⟨p, q, rfl⟩ := List.append_of_mem h1
    have := ih (pre := p) (post := q ++ i :: post) (by rw [h]; simp)
    simp [this]

/-- As long as not all has come up, something may. -/
theorem Ord.some_ready (ho : Ord T ops L) {listed : Array Bool} (hs : listed.size = ops.size) {j : Nat} (hj : j < ops.size) (hn : ¬ on listed j) : ∃ i, ReadyX ops listed i := by
  have key : ∀ (post pre : List Nat), L = pre ++ post → (∀ x ∈ pre, on listed x) → (∀ x ∈ L, on listed x) ∨ ∃ i, ReadyX ops listed i := by
    intro post
    induction post with
    | nil => intro pre h hp; exact .inl (by rw [h, List.append_nil]; exact hp)
    | cons x r ih =>
      intro pre h hp
      by_cases hx : on listed x
      · exact ih (pre ++ [x]) (by rw [h]; simp) (fun y hy => by
          rw [List.mem_append, List.mem_singleton] at hy
          rcases hy with hy | rfl
          · exact hp y hy
          · exact hx)
      · obtain ⟨o, hox⟩ := ho.oper x (by rw [h]; simp)
        have hlt := (Array.getElem?_eq_some_iff.1 hox).1
        exact .inr ⟨x, by omega, hx, hlt, fun k hd => hp k (ho.lin pre x r h k hd)⟩
  rcases key L [] rfl (fun x hx => by cases hx) with h | h
  · exact absurd (h j (ho.all j hj)) hn
  · exact h

/-- An order that may be drawn. -/
def LinR (ops : Array Oper) : List Nat → Array Bool → Prop
  | [], listed => ∀ j, j < ops.size → on listed j
  | i :: r, listed => ReadyX ops listed i ∧ LinR ops r (listed.setIfInBounds i true)

def left (listed : Array Bool) : Nat → Nat
  | 0 => 0
  | n + 1 => left listed n + (if listed.getD n false = true then 0 else 1)

theorem left_zero {listed : Array Bool} : ∀ {n : Nat}, left listed n = 0 → ∀ j, j < n → on listed j
  | 0, _, j, hj => by omega
  | n + 1, hl, j, hj => by
    simp only [left] at hl
    by_cases hjn : j = n
    · subst hjn
      simp only [on]
      split at hl
      · assumption
      · omega
    · exact left_zero (n := n) (by omega) j (by omega)

theorem left_set_ge {listed : Array Bool} {i : Nat} : ∀ {n : Nat}, n ≤ i → left (listed.setIfInBounds i true) n = left listed n
  | 0, _ => rfl
  | n + 1, h => by
    simp only [left]
    rw [left_set_ge (by omega), getD_set_ne false (by omega)]

theorem left_set {listed : Array Bool} {i : Nat} (hi : i < listed.size) (hn : ¬ on listed i) : ∀ {n : Nat}, i < n → left (listed.setIfInBounds i true) n + 1 = left listed n
  | n + 1, h => by
    simp only [left]
    by_cases hin : i = n
    · subst hin
      rw [left_set_ge (Nat.le_refl _)]
      simp only [on] at hn
      have : (listed.setIfInBounds i true).getD i false = true := by simp [hi]
      rw [if_pos this, if_neg hn]
    · have := left_set hi hn (n := n) (by omega)
      rw [getD_set_ne false hin]
      omega

theorem go_LinR (ho : Ord T ops L) : ∀ (fuel t : Nat) (listed : Array Bool), listed.size = ops.size → left listed ops.size = fuel → LinR ops (Region.linearise.go .any ops fuel t listed []) listed := by
  intro fuel
  induction fuel with
  | zero => intro t listed hs hl; exact left_zero hl
  | succ fuel ih =>
    intro t listed hs hl
    simp only [Region.linearise.go]
    change LinR ops (match (Region.ready .any ops listed)[t % (Region.ready .any ops listed).length]? with
      | some i => Region.linearise.go .any ops fuel (t / (Region.ready .any ops listed).length) (listed.setIfInBounds i true) [i]
      | none => [].reverse) listed
    cases hi : (Region.ready .any ops listed)[t % (Region.ready .any ops listed).length]? with
    | none =>
      have hnil : Region.ready .any ops listed = [] := by
        cases hr : Region.ready .any ops listed with
        | nil => rfl
        | cons x xs =>
          rw [hr] at hi
          have hlt : t % (x :: xs).length < (x :: xs).length := Nat.mod_lt _ (by simp)
          simp at hi
          simp at hlt
          omega
      intro j hj
      by_cases hon : on listed j
      · exact hon
      · obtain ⟨i, hr⟩ := ho.some_ready hs hj hon
        have := X_ready hr
        rw [hnil] at this
        cases this
    | some i =>
      simp only []
      rw [linearise_go_acc, List.reverse_singleton, List.singleton_append]
      have hr := ready_X (List.mem_of_getElem? hi)
      exact ⟨hr, ih _ _ (by simpa using hs) (by have := left_set hr.1 hr.2.1 hr.2.2.1; omega)⟩

theorem left_false : ∀ (n m : Nat), left (Array.replicate m false) n = n
  | 0, _ => rfl
  | n + 1, m => by
    simp only [left]
    rw [left_false n m, if_neg]
    simp only [Array.getD_eq_getD_getElem?, Array.getElem?_replicate]
    split <;> simp

theorem linearise_LinR (ho : Ord T ops L) (t : Nat) : LinR ops (Region.linearise .any ops t) (Array.replicate ops.size false) :=
  go_LinR ho ops.size t _ (by simp) (left_false _ _)

theorem closed_false : ClosedX ops (Array.replicate ops.size false) := by
  intro j i _ hi
  simp only [on, Array.getD_eq_getD_getElem?, Array.getElem?_replicate] at hi
  split at hi <;> simp at hi

end Go.Proofs.YtfchbkmegicfoaaGreat.Ex
