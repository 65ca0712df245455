/- A region that draws its order: as in RegionS, but S need not hold behind the operations that wait for all of I. -/
import Derived.Test.YtanmfldgillodaaGreatRegionS
set_option linter.unusedSimpArgs false
set_option linter.unusedVariables false
namespace Go.Proofs.YtanmfldgillodaaGreat
open Go.RowKit

section
variable {P : Program} {ops : Array Oper} {md : Region.Mode} {C S : World → Prop} {E : Nat → Bool}

/-- Whatever order is picked, and S holds behind every operation outside E. -/
def wpAnyJ (P : Program) (md : Region.Mode) (ops : Array Oper) (Q : Exit → Act → World → Prop) (S : World → Prop) (E : Nat → Bool) : Nat → Array Bool → Act → World → Prop
  | 0, listed, a, w => Region.ready md ops listed = [] ∧ Q .normal a w
  | fuel + 1, listed, a, w =>
    (Region.ready md ops listed = [] → Q .normal a w) ∧
    ∀ i ∈ Region.ready md ops listed, wpOp P ops Q i (fun a' w' => (E i = false → S w') ∧ wpAnyJ P md ops Q S E fuel (listed.setIfInBounds i true) a' w') a w

theorem wpAny_of_J {Q : Exit → Act → World → Prop} : ∀ (fuel : Nat) (listed : Array Bool) (a : Act) (w : World), wpAnyJ P md ops Q S E fuel listed a w → wpAny P md ops Q fuel listed a w
  | 0, _, _, _, h => h
  | fuel + 1, _, _, _, h => ⟨h.1, fun i hi => wpOp_mono (fun a' w' h' => wpAny_of_J fuel _ a' w' h'.2) (h.2 i hi)⟩

theorem wpAnyJ_first {Q : Exit → Act → World → Prop} {i : Nat} {oi : Oper} {v : Value} (hi : ops[i]? = some oi) (hsel : ∀ (j : Nat) (o : Oper) cs b, ops[j]? = some o → o.op ≠ .select cs b)
    (hQ : ∀ c a w, Q (.panic c) (a.put oi.dst v) w → Q (.panic c) a w) (hE : ∀ j oj, ops[j]? = some oj → E j = true → ∃ e ∈ oj.after, Region.binds md e = true ∧ e.on = i) :
    ∀ (fuel : Nat) (listed : Array Bool) (a : Act) (w : World),
      (∀ j oj, ops[j]? = some oj → j ≠ i → listed.getD j true = false → (∀ e ∈ oj.after, Region.binds md e = true → e.on ≠ i) → oi.apart ops oj = true) →
      i ∈ Region.ready md ops listed → YieldsIf P ops S oi v a → S w →
      wpAnyJ P md ops Q S E fuel (listed.setIfInBounds i true) (a.put oi.dst v) w → wpAnyJ P md ops Q S E (fuel + 1) listed a w := by
  intro fuel
  induction fuel with
  | zero =>
    intro listed a w _ hr hy hS H
    refine ⟨fun h => (by rw [h] at hr; cases hr), fun j hj => ?_⟩
    by_cases hji : j = i
    · subst hji; exact hy.wpOp hi hS ⟨fun _ => hS, H⟩
    · have := ready_mono hj hji
      rw [H.1] at this
      cases this
  | succ fuel ih =>
    intro listed a w hfree hr hy hS H
    refine ⟨fun h => (by rw [h] at hr; cases hr), fun j hj => ?_⟩
    by_cases hji : j = i
    · subst hji; exact hy.wpOp hi hS ⟨fun _ => hS, H⟩
    · have h1 := H.2 j (ready_mono hj hji)
      obtain ⟨hjun, oj, hoj, hall⟩ := mem_ready.1 hj
      have hnot := not_on (md := md) (mem_ready.1 hr).1 hall
      have hEj : E j = false := by
        cases hEj : E j with
        | false => rfl
        | true =>
          obtain ⟨e, he, hb, ho⟩ := hE j oj hoj hEj
          exact absurd ho (hnot e he hb)
      have h2 := wpOp_putIf (S := S) hoj (hfree j oj hoj hji hjun hnot) (fun cs b => hsel i oi cs b hi) (fun cs b => hsel j oj cs b hoj) hQ hy h1
      refine wpOp_mono (fun a' w' h3 => ⟨h3.2.1, ih (listed.setIfInBounds j true) a' w' (free_next hfree hjun) (ready_mono hr (Ne.symm hji)) h3.1 (h3.2.1 hEj) ?_⟩) h2
      rw [Array.setIfInBounds_comm _ _ hji]
      exact h3.2.2

/-- Whatever order is picked: the operations of T go by 'wpAnyJ'. -/
def wpMJ (P : Program) (md : Region.Mode) (ops : Array Oper) (C S : World → Prop) (E : Nat → Bool) (Q : Exit → Act → World → Prop) (T : List Nat) : Nat → Array Bool → Act → Prop
  | 0, listed, a => ∀ w, C w → wpAnyJ P md ops Q S E 0 listed a w
  | f + 1, listed, a => (Region.ready md ops listed = [] → ∀ w, C w → Q .normal a w) ∧ ∀ i ∈ Region.ready md ops listed,
      if i ∈ T then ∀ w, C w → wpOp P ops Q i (fun a' w' => (E i = false → S w') ∧ wpAnyJ P md ops Q S E f (listed.setIfInBounds i true) a' w') a w
      else qOp P ops C i (wpMJ P md ops C S E Q T f (listed.setIfInBounds i true)) a

theorem wpAnyJ_of_wpMJ {Q : Exit → Act → World → Prop} {T : List Nat} (hCS : ∀ w, C w → S w) : ∀ (f : Nat) (listed : Array Bool) (a : Act), wpMJ P md ops C S E Q T f listed a → ∀ w, C w → wpAnyJ P md ops Q S E f listed a w
  | 0, _, _, h, w, hw => h w hw
  | f + 1, listed, a, h, w, hw => by
    refine ⟨fun h0 => h.1 h0 w hw, fun i hi => ?_⟩
    have h1 := h.2 i hi
    by_cases hT : i ∈ T
    · rw [if_pos hT] at h1
      exact h1 w hw
    · rw [if_neg hT] at h1
      exact wpOp_of_qOp hw (fun a' w' hw' h' => ⟨fun _ => hCS _ hw', wpAnyJ_of_wpMJ hCS f _ a' h' w' hw'⟩) h1

theorem wpMJ_firstI {Q : Exit → Act → World → Prop} {T : List Nat} {i : Nat} {oi : Oper} {v : Value} (hCS : ∀ w, C w → S w) (hE : ∀ j oj, ops[j]? = some oj → E j = true → ∃ e ∈ oj.after, Region.binds md e = true ∧ e.on = i) (hi : ops[i]? = some oi) (hsel : ∀ (j : Nat) (o : Oper) cs b, ops[j]? = some o → o.op ≠ .select cs b)
    (hQ : ∀ c (a : Act) d v w, Q (.panic c) (a.put d v) w → Q (.panic c) a w) (hiT : i ∉ T) :
    ∀ (f : Nat) (listed : Array Bool) (a : Act),
      (∀ j oj, ops[j]? = some oj → j ≠ i → listed.getD j true = false → (∀ e ∈ oj.after, Region.binds md e = true → e.on ≠ i) → oi.apart ops oj = true) →
      i ∈ Region.ready md ops listed → YieldsIf P ops S oi v a →
      wpMJ P md ops C S E Q T f (listed.setIfInBounds i true) (a.put oi.dst v) → wpMJ P md ops C S E Q T (f + 1) listed a := by
  intro f
  induction f with
  | zero =>
    intro listed a hfree hr hy H
    refine ⟨fun h => (by rw [h] at hr; cases hr), fun j hj => ?_⟩
    by_cases hji : j = i
    · subst hji; rw [if_neg hiT]; exact (yieldsIn_of_yieldsIf hCS hy).qOp hi H
    · by_cases hex : ∃ w, C w
      · obtain ⟨w, hw⟩ := hex
        have := ready_mono hj hji
        rw [(H w hw).1] at this
        cases this
      · split
        · exact fun w hw => absurd ⟨w, hw⟩ hex
        · obtain ⟨hjun, oj, hoj, hall⟩ := mem_ready.1 hj
          unfold qOp
          simp only [hoj]
          split
          · exact ⟨undef, fun w hw => absurd ⟨w, hw⟩ hex, fun w hw => absurd ⟨w, hw⟩ hex⟩
          · exact fun w hw => absurd ⟨w, hw⟩ hex
  | succ f ih =>
    intro listed a hfree hr hy H
    refine ⟨fun h => (by rw [h] at hr; cases hr), fun j hj => ?_⟩
    by_cases hji : j = i
    · subst hji; rw [if_neg hiT]; exact (yieldsIn_of_yieldsIf hCS hy).qOp hi H
    · have h1 := H.2 j (ready_mono hj hji)
      have hun := (mem_ready.1 hr).1
      obtain ⟨hjun, oj, hoj, hall⟩ := mem_ready.1 hj
      have hap := hfree j oj hoj hji hjun (not_on (md := md) hun hall)
      by_cases hT : j ∈ T
      · rw [if_pos hT] at h1 ⊢
        intro w hw
        have h2 := wpOp_putIf (S := S) hoj hap (fun cs b => hsel i oi cs b hi) (fun cs b => hsel j oj cs b hoj) (fun c a w => hQ c a _ _ w) hy (h1 w hw)
        have hEj : E j = false := by
          cases hEj : E j with
          | false => rfl
          | true =>
            obtain ⟨e, he, hb, ho⟩ := hE j oj hoj hEj
            exact absurd ho (not_on (md := md) hun hall e he hb)
        refine wpOp_mono (fun a' w' h3 => ⟨h3.2.1, ?_⟩) h2
        refine wpAnyJ_first hi hsel (fun c a w => hQ c a _ _ w) hE f (listed.setIfInBounds j true) a' w' (free_next hfree hjun) (ready_mono hr (Ne.symm hji)) h3.1 (h3.2.1 hEj) ?_
        rw [Array.setIfInBounds_comm _ _ hji]
        exact h3.2.2
      · rw [if_neg hT] at h1 ⊢
        have h2 := qOp_put hoj hap (fun cs b => hsel i oi cs b hi) (fun cs b => hsel j oj cs b hoj) (yieldsIn_of_yieldsIf (C := C) hCS hy) h1
        have h3 : qOp P ops C j (fun a' => YieldsIf P ops S oi v a' ∧ wpMJ P md ops C S E Q T f ((listed.setIfInBounds i true).setIfInBounds j true) (a'.put oi.dst v)) a := by
          obtain ⟨q1, q2, q3⟩ := Oper.apart_spec hap
          obtain ⟨u, hu, hK⟩ := yieldsIn_of_qOp hoj h2
          exact hu.qOp hoj ⟨hy.of_same (execOp_put oi (fun cs b => hsel i oi cs b hi) a oj.dst u q3) (wanted_put oi a oj.dst u q3), hK.2⟩
        refine qOp_mono (fun a' h4 => ih (listed.setIfInBounds j true) a' (free_next hfree hjun) (ready_mono hr (Ne.symm hji)) h4.1 ?_) h3
        rw [Array.setIfInBounds_comm _ _ hji]
        exact h4.2

theorem wpMJ_firstH {Q : Exit → Act → World → Prop} {T : List Nat} {i : Nat} {oi : Oper} {v : Value} (hi : ops[i]? = some oi) (hsel : ∀ (j : Nat) (o : Oper) cs b, ops[j]? = some o → o.op ≠ .select cs b)
    (hiT : i ∉ T) (hbe : ∀ j ∈ T, (behindOf md ops i ops.size).getD j false = true) :
    ∀ (f : Nat) (listed : Array Bool) (a : Act), Closed md ops listed →
      (∀ j oj, ops[j]? = some oj → j ≠ i → listed.getD j true = false → (∀ e ∈ oj.after, Region.binds md e = true → e.on ≠ i) → oi.apart ops oj = true) →
      i ∈ Region.ready md ops listed → YieldsIn P ops C oi v a →
      wpMJ P md ops C S E Q T f (listed.setIfInBounds i true) (a.put oi.dst v) → wpMJ P md ops C S E Q T (f + 1) listed a := by
  intro f
  induction f with
  | zero =>
    intro listed a hc hfree hr hy H
    refine ⟨fun h => (by rw [h] at hr; cases hr), fun j hj => ?_⟩
    have hjT : j ∉ T := fun hT => by
      have hji : j ≠ i := fun e => hiT (e ▸ hT)
      exact not_ready_of_behind hc (getD_ff (mem_ready.1 hr).1) hji (hbe j hT) hj
    rw [if_neg hjT]
    by_cases hji : j = i
    · subst hji; exact hy.qOp hi H
    · by_cases hex : ∃ w, C w
      · obtain ⟨w, hw⟩ := hex
        have := ready_mono hj hji
        rw [(H w hw).1] at this
        cases this
      · obtain ⟨hjun, oj, hoj, hall⟩ := mem_ready.1 hj
        unfold qOp
        simp only [hoj]
        split
        · exact ⟨undef, fun w hw => absurd ⟨w, hw⟩ hex, fun w hw => absurd ⟨w, hw⟩ hex⟩
        · exact fun w hw => absurd ⟨w, hw⟩ hex
  | succ f ih =>
    intro listed a hc hfree hr hy H
    refine ⟨fun h => (by rw [h] at hr; cases hr), fun j hj => ?_⟩
    have hjT : j ∉ T := fun hT => by
      have hji : j ≠ i := fun e => hiT (e ▸ hT)
      exact not_ready_of_behind hc (getD_ff (mem_ready.1 hr).1) hji (hbe j hT) hj
    rw [if_neg hjT]
    by_cases hji : j = i
    · subst hji; exact hy.qOp hi H
    · have h1 := H.2 j (ready_mono hj hji)
      rw [if_neg hjT] at h1
      have hun := (mem_ready.1 hr).1
      obtain ⟨hjun, oj, hoj, hall⟩ := mem_ready.1 hj
      have h2 := qOp_put hoj (hfree j oj hoj hji hjun (not_on (md := md) hun hall)) (fun cs b => hsel i oi cs b hi) (fun cs b => hsel j oj cs b hoj) hy h1
      refine qOp_mono (fun a' h3 => ih (listed.setIfInBounds j true) a' (hc.set hj) (free_next hfree hjun) (ready_mono hr (Ne.symm hji)) h3.1 ?_) h2
      rw [Array.setIfInBounds_comm _ _ hji]
      exact h3.2

theorem wpOp_then {Q : Exit → Act → World → Prop} {next K : Act → World → Prop} {k : Nat} {a : Act} {w : World} (h : wpOp P ops (Exit.then next Q) k K a w) : wpOp P ops Q k K a w := by
  unfold wpOp at *
  split
  · rename_i ho; simp only [ho] at h; exact h
  · rename_i o ho
    simp only [ho] at h
    split
    · rename_i hw
      simp only [hw, if_true] at h
      refine h.imp (fun h1 => ?_) id
      unfold Oper.wp at *
      generalize (execOp a.eval o).run P w = r at *
      cases r with
      | ok n w' =>
        cases n <;> simp only [Oper.upon] at h1 ⊢ <;> first | exact h1 | exact Calls.mono h1 (fun e w'' he => by cases e <;> exact he)
      | halt x w' => cases x <;> simp only [Oper.upon] at h1 ⊢ <;> exact h1
    · rename_i hw
      simp only [hw] at h
      exact h

theorem wpAnyJ_of_seqT2 {Q : Exit → Act → World → Prop} {l : List Oper} {T2 : List Nat} (hl : ops = l.toArray) : ∀ (T : List Nat), (∀ i ∈ T, i ∈ T2) → ∀ (listed : Array Bool) (a : Act) (w : World), seqOn md ops T listed = true →
    wpList P ops Q (sel l T) a w → wpAnyJ P md ops Q S T2.contains T.length listed a w
  | [], _, _, _, _, hB, h => ⟨by simpa [seqOn] using hB, h⟩
  | i :: r, hT, listed, a, w, hB, h => by
    simp only [seqOn, Bool.and_eq_true, decide_eq_true_eq] at hB
    have hmem : i ∈ Region.ready md ops listed := by rw [hB.1]; simp
    obtain ⟨_, o, ho, _⟩ := mem_ready.1 hmem
    have ho' : l[i]? = some o := by subst hl; simpa using ho
    refine ⟨fun h1 => (by rw [hB.1] at h1; cases h1), fun k hk => ?_⟩
    rw [hB.1] at hk
    have hki : k = i := by simpa using hk
    subst hki
    have h' : wpList P ops Q (o :: sel l r) a w := by simpa [sel, ho'] using h
    have hw : wpOp P ops Q k (wpList P ops Q (sel l r)) a w := by unfold wpOp; simp only [ho]; exact h'
    have hkT : T2.contains k = true := by simpa using hT k (by simp)
    exact wpOp_mono (fun a' w' h'' => ⟨(fun hf => by rw [hkT] at hf; cases hf), wpAnyJ_of_seqT2 hl r (fun i hi => hT i (by simp [hi])) _ a' w' hB.2 h''⟩) hw

theorem wpAnyJ_of_seqOn {Q : Exit → Act → World → Prop} {l : List Oper} {T2 : List Nat} (hl : ops = l.toArray) : ∀ (T1 : List Nat) (listed : Array Bool) (a : Act) (w : World), seqOn md ops (T1 ++ T2) listed = true →
    wpListS P ops S (Exit.then (wpList P ops Q (sel l T2)) Q) (sel l T1) a w → wpAnyJ P md ops Q S T2.contains (T1 ++ T2).length listed a w
  | [], listed, a, w, hB, h => wpAnyJ_of_seqT2 hl T2 (fun _ h => h) listed a w hB h
  | i :: r, listed, a, w, hB, h => by
    simp only [List.cons_append, seqOn, Bool.and_eq_true, decide_eq_true_eq] at hB
    have hmem : i ∈ Region.ready md ops listed := by rw [hB.1]; simp
    obtain ⟨_, o, ho, _⟩ := mem_ready.1 hmem
    have ho' : l[i]? = some o := by subst hl; simpa using ho
    refine ⟨fun h1 => (by rw [hB.1] at h1; cases h1), fun k hk => ?_⟩
    rw [hB.1] at hk
    have hki : k = i := by simpa using hk
    subst hki
    have h' : wpListS P ops S (Exit.then (wpList P ops Q (sel l T2)) Q) (o :: sel l r) a w := by simpa [sel, ho'] using h
    have hw : wpOp P ops (Exit.then (wpList P ops Q (sel l T2)) Q) k (fun a' w' => S w' ∧ wpListS P ops S (Exit.then (wpList P ops Q (sel l T2)) Q) (sel l r) a' w') a w := by
      unfold wpOp
      simp only [ho]
      unfold wpListS at h'
      split
      · rename_i hwt; rw [if_pos hwt] at h'; exact .inl h'
      · rename_i hwt; rw [if_neg hwt] at h'; exact h'
    have hw2 : wpOp P ops Q k (fun a' w' => S w' ∧ wpListS P ops S (Exit.then (wpList P ops Q (sel l T2)) Q) (sel l r) a' w') a w := wpOp_then hw
    exact wpOp_mono (fun a' w' h'' => ⟨fun _ => h''.1, wpAnyJ_of_seqOn hl r _ a' w' hB.2 h''.2⟩) hw2

/-- All of T2 wait for i. -/
def waits (md : Region.Mode) (ops : Array Oper) (T2 : List Nat) (i : Nat) : Bool := T2.all fun j => match ops[j]? with | some oj => oj.after.any (fun e => Region.binds md e && e.on == i) | none => true

theorem waits_spec {T2 : List Nat} {i : Nat} (h : waits md ops T2 i = true) : ∀ j oj, ops[j]? = some oj → T2.contains j = true → ∃ e ∈ oj.after, Region.binds md e = true ∧ e.on = i := by
  intro j oj hj hc
  have h1 := List.all_eq_true.1 h j (by simpa using hc)
  rw [hj] at h1
  simp only [Array.any_eq_true] at h1
  obtain ⟨n, hn, h2⟩ := h1
  simp only [Bool.and_eq_true, beq_iff_eq] at h2
  exact ⟨oj.after[n], Array.getElem_mem hn, h2.1, h2.2⟩

theorem wpMJ_ordI {Q : Exit → Act → World → Prop} {l : List Oper} (hCS : ∀ w, C w → S w) (hl : ops = l.toArray) (hQ : ∀ c (a : Act) d v w, Q (.panic c) (a.put d v) w → Q (.panic c) a w) (hsel : Region.noSelect ops = true) {T1 T2 : List Nat} :
    ∀ (I : List Nat) (listed : Array Bool) (a : Act), I.all (waits md ops T2) = true → ordI md ops (T1 ++ T2) I listed = true → wpHeld P ops S (fun a' => ∀ w, C w → wpListS P ops S (Exit.then (wpList P ops Q (sel l T2)) Q) (sel l T1) a' w) (sel l I) a → wpMJ P md ops C S T2.contains Q (T1 ++ T2) (I.length + (T1 ++ T2).length) listed a
  | [], listed, a, hW, hB, h => by
    simp only [ordI] at hB
    have key : ∀ w, C w → wpAnyJ P md ops Q S T2.contains (T1 ++ T2).length listed a w := fun w hw => wpAnyJ_of_seqOn hl T1 listed a w hB (h w hw)
    simp only [List.length_nil, Nat.zero_add]
    generalize hT : T1 ++ T2 = T at key hB ⊢
    cases T with
    | nil => exact key
    | cons i r =>
      simp only [seqOn, Bool.and_eq_true, decide_eq_true_eq] at hB
      refine ⟨fun h1 => (by rw [hB.1] at h1; cases h1), fun k hk => ?_⟩
      have hk' := hk
      rw [hB.1] at hk'
      have hki : k = i := by simpa using hk'
      subst hki
      rw [if_pos (by simp)]
      exact fun w hw => (key w hw).2 k hk
  | i :: r, listed, a, hW, hB, h => by
    simp only [ordI, Bool.and_eq_true, Bool.not_eq_true'] at hB
    simp only [List.all_cons, Bool.and_eq_true] at hW
    obtain ⟨⟨⟨hT, hr⟩, hf⟩, hB'⟩ := hB
    have hr' : i ∈ Region.ready md ops listed := by simpa using hr
    obtain ⟨_, o, ho, _⟩ := mem_ready.1 hr'
    have ho' : l[i]? = some o := by subst hl; simpa using ho
    have h' : wpHeld P ops S (fun a' => ∀ w, C w → wpListS P ops S (Exit.then (wpList P ops Q (sel l T2)) Q) (sel l T1) a' w) (o :: sel l r) a := by simpa [sel, ho'] using h
    obtain ⟨v, hy, hK⟩ := yieldsIf_of h'
    rw [show (i :: r).length + (T1 ++ T2).length = (r.length + (T1 ++ T2).length) + 1 by simp only [List.length_cons]; omega]
    exact wpMJ_firstI hCS (waits_spec hW.1) ho (Region.noSelect_spec hsel) hQ (by simpa using hT) _ listed a (Region.free_spec ho hf) hr' hy (wpMJ_ordI hCS hl hQ hsel r _ _ hW.2 hB' hK)

theorem wpMJ_ordH {Q : Exit → Act → World → Prop} {l : List Oper} (hCS : ∀ w, C w → S w) (hl : ops = l.toArray) (hQ : ∀ c (a : Act) d v w, Q (.panic c) (a.put d v) w → Q (.panic c) a w) (hsel : Region.noSelect ops = true) {I T1 T2 : List Nat} (hW : I.all (waits md ops T2) = true) :
    ∀ (H : List Nat) (listed : Array Bool) (a : Act), Closed md ops listed → ordH md ops I (T1 ++ T2) H listed = true → wpQuiet P ops C (fun a1 => wpHeld P ops S (fun a' => ∀ w, C w → wpListS P ops S (Exit.then (wpList P ops Q (sel l T2)) Q) (sel l T1) a' w) (sel l I) a1) (sel l H) a →
    wpMJ P md ops C S T2.contains Q (T1 ++ T2) (H.length + (I.length + (T1 ++ T2).length)) listed a
  | [], listed, a, _, hB, h => by
    simp only [ordH] at hB
    simp only [List.length_nil, Nat.zero_add]
    exact wpMJ_ordI hCS hl hQ hsel I listed a hW hB h
  | i :: r, listed, a, hc, hB, h => by
    simp only [ordH, Bool.and_eq_true, Bool.not_eq_true'] at hB
    obtain ⟨⟨⟨⟨hT, hbe⟩, hr⟩, hf⟩, hB'⟩ := hB
    have hr' : i ∈ Region.ready md ops listed := by simpa using hr
    obtain ⟨_, o, ho, _⟩ := mem_ready.1 hr'
    have ho' : l[i]? = some o := by subst hl; simpa using ho
    have hst : qOp P ops C i (wpQuiet P ops C (fun a1 => wpHeld P ops S (fun a' => ∀ w, C w → wpListS P ops S (Exit.then (wpList P ops Q (sel l T2)) Q) (sel l T1) a' w) (sel l I) a1) (sel l r)) a := by
      have h' : wpQuiet P ops C (fun a1 => wpHeld P ops S (fun a' => ∀ w, C w → wpListS P ops S (Exit.then (wpList P ops Q (sel l T2)) Q) (sel l T1) a' w) (sel l I) a1) (o :: sel l r) a := by simpa [sel, ho'] using h
      unfold qOp; simp only [ho]; exact h'
    obtain ⟨v, hy, hK⟩ := yieldsIn_of_qOp ho hst
    rw [show (i :: r).length + (I.length + (T1 ++ T2).length) = (r.length + (I.length + (T1 ++ T2).length)) + 1 by simp only [List.length_cons]; omega]
    exact wpMJ_firstH ho (Region.noSelect_spec hsel) (by simpa using hT) (fun j hj => List.all_eq_true.1 hbe j hj) _ listed a hc (Region.free_spec ho hf) hr' hy (wpMJ_ordH hCS hl hQ hsel hW r _ _ (hc.set hr') hB' hK)

/-- One walk of the chosen order serves every order, S held up to T2. -/
theorem wp_region_ordJ {id : Nat} {Q : Exit → Act → World → Prop} {a : Act} {w : World} {l : List Oper} (S : World → Prop) (H I T1 T2 : List Nat) (hm : P.follows .mixedOrders = true) (hB : (ordB l.toArray H I (T1 ++ T2) && I.all (waits .any l.toArray T2)) = true)
    (hQ : ∀ c (a : Act) d v w, Q (.panic c) (a.put d v) w → Q (.panic c) a w) (hS : ∀ k, S (w.drewN k))
    (h : wpQuiet P l.toArray (fun w' => ∃ k, w' = w.drewN k) (fun a1 => wpHeld P l.toArray S (fun a' => ∀ w', (∃ k, w' = w.drewN k) → wpListS P l.toArray S (Exit.then (wpList P l.toArray Q (sel l T2)) Q) (sel l T1) a' w') (sel l I) a1) (sel l H) a) : (Code.region id l.toArray true).wp P Q a w := by
  simp only [ordB, Bool.and_eq_true, decide_eq_true_eq] at hB
  obtain ⟨⟨⟨hsel, hlen⟩, hmix⟩, hW⟩ := hB
  have hCS : ∀ w', (∃ k, w' = w.drewN k) → S w' := by rintro _ ⟨k, rfl⟩; exact hS k
  refine wp_region_any hm ?_
  have := wpAnyJ_of_wpMJ hCS _ _ _ (wpMJ_ordH (P := P) (C := fun w' => ∃ k, w' = w.drewN k) (md := .any) hCS rfl hQ hsel hW H (Array.replicate l.toArray.size false) a (fun j oj _ hl => by rw [getD_replicate_false] at hl; cases hl) hmix h) { w with drawn := w.drawn + 1 } ⟨1, rfl⟩
  rw [hlen] at this
  exact wpAny_of_J _ _ _ _ this

end
end Go.Proofs.YtanmfldgillodaaGreat
