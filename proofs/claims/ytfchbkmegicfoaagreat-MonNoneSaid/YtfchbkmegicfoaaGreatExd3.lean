/- Regions that draw their order: what the checked order says. -/
import Derived.Test.YtfchbkmegicfoaaGreatExd2
set_option linter.unusedSimpArgs false
set_option linter.unusedVariables false
namespace Go.Proofs.YtfchbkmegicfoaaGreat.Ex
open Go Go.RowKit

variable {T : TT} {ops : Array Oper}

def Direct (ops : Array Oper) (j i : Nat) : Prop := ∃ o e, ops[i]? = some o ∧ e ∈ o.after.toList ∧ Region.binds .any e = true ∧ e.on = j

inductive Before (ops : Array Oper) : Nat → Nat → Prop where
  | one {j i : Nat} : Direct ops j i → Before ops j i
  | step {j k i : Nat} : Before ops j k → Direct ops k i → Before ops j i

theorem waits_bit (n M i k : Nat) : waits n M i k = M.testBit (n * i + k) := by
  unfold waits
  rw [Nat.testBit_eq_decide_div_mod_eq, Nat.shiftRight_eq_div_pow, Bool.eq_iff_iff, Nat.beq_eq]
  simp

theorem predMask_bits : ∀ (l : List Edge) (acc j : Nat), (acc.testBit j = true ∨ ∃ e ∈ l, Region.binds .any e = true ∧ e.on = j) → (predMask l acc).testBit j = true
  | [], acc, j, hh => by
    rcases hh with hh | ⟨e, he, _⟩
    · exact hh
    · cases he
  | e :: r, acc, j, hh => by
    simp only [predMask]
    refine predMask_bits r _ j ?_
    cases hb : Region.binds .any e with
    | true =>
      simp only [cond_true, Nat.testBit_or, Bool.or_eq_true]
      rcases hh with hh | ⟨x, hx, h1, h2⟩
      · exact .inl (.inl hh)
      · cases hx with
        | head => exact .inl (.inr (by rw [h2, Nat.one_shiftLeft, Nat.testBit_two_pow_self]))
        | tail _ hm => exact .inr ⟨x, hm, h1, h2⟩
    | false =>
      simp only [cond_false]
      rcases hh with hh | ⟨x, hx, h1, h2⟩
      · exact .inl hh
      · cases hx with
        | head => rw [hb] at h1; cases h1
        | tail _ hm => exact .inr ⟨x, hm, h1, h2⟩

theorem linOk_cons {n M i : Nat} {r : List Nat} {done : Nat} {last : Option Nat} (hl : linOk T ops n M (i :: r) done last = true) : ∃ o, ops[i]? = some o ∧ (∀ j, (predMask o.after.toList 0).testBit j = true → done.testBit j = true) ∧ done.testBit i = false ∧
    (∀ a, last = some a → waits n M i a = true) ∧ linOk T ops n M r (done ||| (1 <<< i)) (bif isAct T ops i then some i else last) = true := by
  simp only [linOk] at hl
  split at hl
  case h_2 => cases hl
  rename_i o ho
  simp only [Bool.and_eq_true] at hl
  obtain ⟨⟨⟨h1, h2⟩, h3⟩, h4⟩ := hl
  refine ⟨o, ho, fun j hj => ?_, ?_, fun a ha => by rw [ha] at h3; exact h3, h4⟩
  · have h1 := Nat.eq_of_beq_eq_true h1
    rw [← h1, Nat.testBit_and, Bool.and_eq_true] at hj
    exact hj.2
  · have h2 := Nat.eq_of_beq_eq_true h2
    rw [Nat.testBit_eq_decide_div_mod_eq, ← Nat.shiftRight_eq_div_pow, h2]
    rfl

theorem bits_or {done i : Nat} {pre : List Nat} (hd : ∀ j, done.testBit j = true ↔ j ∈ pre) (j : Nat) : (done ||| (1 <<< i)).testBit j = true ↔ j ∈ pre ++ [i] := by
  rw [Nat.testBit_or, Bool.or_eq_true, hd, List.mem_append, List.mem_singleton, Nat.one_shiftLeft, Nat.testBit_two_pow]
  constructor
  · rintro (h1 | h1)
    · exact .inl h1
    · exact .inr (by simpa [eq_comm] using h1)
  · rintro (h1 | h1)
    · exact .inl h1
    · exact .inr (by simp [h1])

theorem linOk_lin {n M : Nat} : ∀ (l : List Nat) (done : Nat) (last : Option Nat) (pre : List Nat), linOk T ops n M l done last = true → (∀ j, done.testBit j = true ↔ j ∈ pre) →
    (∀ pre' i post, l = pre' ++ i :: post → (∃ o, ops[i]? = some o) ∧ i ∉ pre ++ pre' ∧ ∀ j, Direct ops j i → j ∈ pre ++ pre') ∧ ∀ j, j < n → j ∈ pre ++ l
  | [], done, last, pre, hl, hd => by
    refine ⟨fun pre' i post he => absurd he (by cases pre' <;> simp), fun j hj => ?_⟩
    have := Nat.eq_of_beq_eq_true hl
    rw [List.append_nil]
    rw [← hd, this, Nat.testBit_two_pow_sub_one]
    simpa using hj
  | i0 :: r, done, last, pre, hl, hd => by
    obtain ⟨o, ho, h1, h2, h3, h4⟩ := linOk_cons hl
    obtain ⟨k1, k2⟩ := linOk_lin r _ _ (pre ++ [i0]) h4 (fun j => bits_or hd j)
    refine ⟨fun pre' i post he => ?_, fun j hj => by have := k2 j hj; simpa using this⟩
    cases pre' with
    | nil =>
      obtain ⟨rfl, rfl⟩ := List.cons.inj he
      refine ⟨⟨o, ho⟩, ?_, fun j hj => ?_⟩
      · rw [List.append_nil, ← hd, h2]
        simp
      · obtain ⟨o', e, g1, g2, g3, g4⟩ := hj
        rw [ho] at g1
        obtain rfl := Option.some.inj g1
        rw [List.append_nil, ← hd]
        exact h1 j (predMask_bits _ _ _ (.inr ⟨e, g2, g3, g4⟩))
    | cons x xs =>
      obtain ⟨rfl, rfl⟩ := List.cons.inj he
      have := k1 xs i post rfl
      simpa using this

/-- All bits stand for operations that come first. -/
def GoodM (ops : Array Oper) (n M : Nat) : Prop := ∀ p, M.testBit p = true → ∃ a b, p = n * a + b ∧ b < n ∧ Before ops b a

theorem GoodM.waits {n M i k : Nat} (hM : GoodM ops n M) (hk : k < n) (hw : waits n M i k = true) : Before ops k i := by
  rw [waits_bit] at hw
  obtain ⟨a, b, h1, h2, h3⟩ := hM _ hw
  have e1 : (n * i + k) / n = i := by rw [Nat.mul_add_div (by omega), Nat.div_eq_of_lt hk, Nat.add_zero]
  have e2 : (n * a + b) / n = a := by rw [Nat.mul_add_div (by omega), Nat.div_eq_of_lt h2, Nat.add_zero]
  have ea : i = a := by rw [← e1, h1, e2]
  subst ea
  have : k = b := by omega
  subst this
  exact h3

theorem rowOf_good {n M i : Nat} (hM : GoodM ops n M) (hin : ∀ j i, Direct ops j i → j < n) : ∀ (l : List Edge) (acc : Nat), (∀ e ∈ l, Region.binds .any e = true → Direct ops e.on i) → (∀ b, acc.testBit b = true → b < n ∧ Before ops b i) → ∀ b, (rowOf n M l acc).testBit b = true → b < n ∧ Before ops b i
  | [], acc, _, hacc, b, hb => hacc b hb
  | e :: r, acc, hl, hacc, b, hb => by
    simp only [rowOf] at hb
    refine rowOf_good hM hin r _ (fun x hx => hl x (by simp [hx])) (fun c hc => ?_) b hb
    cases hbd : Region.binds .any e with
    | false =>
      rw [hbd] at hc
      exact hacc c hc
    | true =>
      have hd := hl e (by simp) hbd
      rw [hbd] at hc
      simp only [cond_true, Nat.testBit_or, Bool.or_eq_true, Nat.testBit_and, Bool.and_eq_true] at hc
      rcases hc with (hc | hc) | hc
      · exact hacc c hc
      · rw [Nat.one_shiftLeft, Nat.testBit_two_pow] at hc
        have : e.on = c := by simpa using hc
        subst this
        exact ⟨hin _ _ hd, .one hd⟩
      · obtain ⟨c1, c2⟩ := hc
        rw [Nat.testBit_two_pow_sub_one] at c2
        have hcn : c < n := by simpa using c2
        rw [Nat.testBit_shiftRight] at c1
        have : Before ops c e.on := hM.waits hcn (by rw [waits_bit]; exact c1)
        exact ⟨hcn, .step this hd⟩

theorem matOf_good {n : Nat} (hin : ∀ j i, Direct ops j i → j < n) : ∀ (l : List Oper) (i M : Nat), (∀ k, l[k]? = ops[i + k]?) → GoodM ops n M → GoodM ops n (matOf n l i M)
  | [], i, M, _, hM => hM
  | o :: r, i, M, hl, hM => by
    simp only [matOf]
    have ho : ops[i]? = some o := by have := hl 0; simpa using this.symm
    refine matOf_good hin r (i + 1) _ (fun k => by have := hl (k + 1); rw [List.getElem?_cons_succ] at this; rw [this]; congr 1; omega) (fun p hp => ?_)
    rw [Nat.testBit_or, Bool.or_eq_true] at hp
    rcases hp with hp | hp
    · exact hM p hp
    · rw [Nat.testBit_shiftLeft] at hp
      simp only [Bool.and_eq_true, decide_eq_true_eq] at hp
      obtain ⟨p1, p2⟩ := hp
      obtain ⟨b1, b2⟩ := rowOf_good (i := i) hM hin o.after.toList 0 (fun e he hb => ⟨o, e, ho, he, hb, rfl⟩) (fun b hb => by simp at hb) _ p2
      exact ⟨i, p - n * i, by omega, b1, b2⟩

theorem linOk_acts {n M : Nat} (hM : GoodM ops n M) : ∀ (l : List Nat) (done : Nat) (last : Option Nat) (pre : List Nat), linOk T ops n M l done last = true → (∀ i ∈ l, i < n) → (∀ a ∈ pre, isAct T ops a = true → ∃ b, last = some b ∧ b < n ∧ (a = b ∨ Before ops a b)) →
    (∀ {a b c : Nat}, Before ops a b → Before ops b c → Before ops a c) → ∀ pre' i post, l = pre' ++ i :: post → ∀ a ∈ pre ++ pre', isAct T ops a = true → Before ops a i
  | [], done, last, pre, hl, _, _, _, pre', i, post, he => absurd he (by cases pre' <;> simp)
  | i0 :: r, done, last, pre, hl, hlt, hp, htr, pre', i, post, he => by
    obtain ⟨o, ho, h1, h2, h3, h4⟩ := linOk_cons hl
    have hbef : ∀ a ∈ pre, isAct T ops a = true → Before ops a i0 := fun a ha hact => by
      obtain ⟨b, hb, hbn, hab⟩ := hp a ha hact
      have := hM.waits hbn (h3 b hb)
      rcases hab with rfl | hab
      · exact this
      · exact htr hab this
    cases pre' with
    | nil =>
      obtain ⟨rfl, rfl⟩ := List.cons.inj he
      intro a ha hact
      rw [List.append_nil] at ha
      exact hbef a ha hact
    | cons x xs =>
      obtain ⟨rfl, rfl⟩ := List.cons.inj he
      have := linOk_acts hM (xs ++ i :: post) _ _ (pre ++ [i0]) h4 (fun j hj => hlt j (by simp [hj])) (fun a ha hact => by
        rw [List.mem_append, List.mem_singleton] at ha
        cases hi0 : isAct T ops i0 with
        | true =>
          rcases ha with ha | rfl
          · exact ⟨i0, rfl, hlt i0 (by simp), .inr (hbef a ha hact)⟩
          · exact ⟨a, rfl, hlt a (by simp), .inl rfl⟩
        | false =>
          rcases ha with ha | rfl
          · exact hp a ha hact
          · rw [hi0] at hact; cases hact) htr xs i post rfl
      simpa using this

theorem Before.trans {a b c : Nat} (h1 : Before ops a b) (h2 : Before ops b c) : Before ops a c := by
  induction h2 with
  | one hd => exact .step h1 hd
  | step _ hd ih => exact .step ih hd

theorem tmpOk_spec {n M i : Nat} {ts : List Tmp} : ∀ (l : List Oper) (j : Nat), tmpOk n M i ts l j = true → ∀ k o d, l[k]? = some o → o.dst = some d → d ∈ ts → i = j + k ∨ waits n M i (j + k) = true ∨ waits n M (j + k) i = true
  | [], j, _, k, o, d, hk, _, _ => by simp at hk
  | x :: r, j, hh, k, o, d, hk, hd, hm => by
    simp only [tmpOk, Bool.and_eq_true] at hh
    cases k with
    | zero =>
      simp only [List.getElem?_cons_zero, Option.some.injEq] at hk
      subst hk
      rw [hd] at hh
      simp only [Bool.or_eq_true, Bool.not_eq_true'] at hh
      rcases hh.1 with ((h1 | h1) | h1) | h1
      · have : ts.contains d = true := by simpa using hm
        rw [this] at h1
        cases h1
      · exact .inl (Nat.eq_of_beq_eq_true h1)
      · exact .inr (.inl h1)
      · exact .inr (.inr h1)
    | succ k =>
      rw [List.getElem?_cons_succ] at hk
      have := tmpOk_spec r (j + 1) hh.2 k o d hk hd hm
      rwa [show j + 1 + k = j + (k + 1) by omega] at this

theorem tmpsOk_spec {n M : Nat} : ∀ (l : List Oper) (i : Nat), tmpsOk n M ops l i = true → ∀ k o, l[k]? = some o → tmpOk n M (i + k) (namesOf ops o) ops.toList 0 = true
  | [], i, _, k, o, hk => by simp at hk
  | x :: r, i, hh, k, o, hk => by
    simp only [tmpsOk, Bool.and_eq_true] at hh
    cases k with
    | zero =>
      simp only [List.getElem?_cons_zero, Option.some.injEq] at hk
      subst hk
      exact hh.1
    | succ k =>
      rw [List.getElem?_cons_succ] at hk
      have := tmpsOk_spec r (i + 1) hh.2 k o hk
      rwa [show i + 1 + k = i + (k + 1) by omega] at this

structure Ord (T : TT) (ops : Array Oper) (l : List Nat) : Prop where
  all : ∀ j, j < ops.size → j ∈ l
  oper : ∀ j ∈ l, ∃ o, ops[j]? = some o
  nodup : ∀ pre i post, l = pre ++ i :: post → i ∉ pre
  lin : ∀ pre i post, l = pre ++ i :: post → ∀ j, Direct ops j i → j ∈ pre
  acts : ∀ pre i post, l = pre ++ i :: post → ∀ a ∈ pre, isAct T ops a = true → Before ops a i
  tmps : ∀ i j oi oj d, ops[i]? = some oi → ops[j]? = some oj → oj.dst = some d → d ∈ namesOf ops oi → i = j ∨ Before ops j i ∨ Before ops i j
  waits : ∀ i k, k < ops.size → waits ops.size (mat ops) i k = true → Before ops k i

theorem okD_ord (hok : okD T ops = true) : Ord T ops (orderD T ops) := by
  simp only [okD, Bool.and_eq_true] at hok
  obtain ⟨h1, h2⟩ := hok
  obtain ⟨k1, k2⟩ := linOk_lin _ 0 none [] h1 (fun j => by simp)
  simp only [List.nil_append] at k1 k2
  have hmem : ∀ j ∈ orderD T ops, ∃ pre post, orderD T ops = pre ++ j :: post := fun j hj => by
    obtain ⟨a, b, h⟩ := List.append_of_mem hj
    exact ⟨a, b, h⟩
  have hoper : ∀ j ∈ orderD T ops, ∃ o, ops[j]? = some o := fun j hj => by
    obtain ⟨a, b, h⟩ := hmem j hj
    exact (k1 a j b h).1
  have hlt : ∀ j ∈ orderD T ops, j < ops.size := fun j hj => by
    obtain ⟨o, ho⟩ := hoper j hj
    exact (Array.getElem?_eq_some_iff.1 ho).1
  have hin : ∀ j i, Direct ops j i → j < ops.size := fun j i hd => by
    obtain ⟨o, e, g1, _⟩ := id hd
    have hi := (Array.getElem?_eq_some_iff.1 g1).1
    obtain ⟨a, b, h⟩ := hmem i (k2 i hi)
    have := (k1 a i b h).2.2 j hd
    exact hlt j (by rw [h]; simp [this])
  have hM : GoodM ops ops.size (mat ops) := matOf_good hin ops.toList 0 0 (fun k => by rw [Nat.zero_add, Array.getElem?_toList]) (fun p hp => by simp at hp)
  refine ⟨k2, hoper, fun pre i post h => (k1 pre i post h).2.1, fun pre i post h => (k1 pre i post h).2.2, fun pre i post h a ha hact => ?_, fun i j oi oj d hi hj hd hm => ?_, fun i k hk hw => hM.waits hk hw⟩
  · exact linOk_acts hM _ 0 none [] h1 hlt (fun a ha => by cases ha) (fun x y => x.trans y) pre i post h a (by simpa using ha) hact
  · have e1 := tmpsOk_spec _ 0 h2 i oi (by rw [Array.getElem?_toList]; exact hi)
    have e2 := tmpOk_spec _ 0 e1 j oj d (by rw [Array.getElem?_toList]; exact hj) hd hm
    simp only [Nat.zero_add] at e2
    have hil := (Array.getElem?_eq_some_iff.1 hi).1
    have hjl := (Array.getElem?_eq_some_iff.1 hj).1
    rcases e2 with e2 | e2 | e2
    · exact .inl e2
    · exact .inr (.inl (hM.waits hjl e2))
    · exact .inr (.inr (hM.waits hil e2))

end Go.Proofs.YtfchbkmegicfoaaGreat.Ex
