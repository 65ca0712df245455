/- A region that draws its order: as in Region, but some reads (I) lie beside calls and stores that do not touch what they read: a property S of the world that every operation keeps says so. -/
import Derived.Test.YtanmfldgillodaaGreatRegion
import Derived.OrdersHeld
set_option linter.unusedSimpArgs false
set_option linter.unusedVariables false
namespace Go.Proofs.YtanmfldgillodaaGreat
open Go.RowKit

section
variable {P : Program} {ops : Array Oper} {md : Region.Mode} {C S : World → Prop}

/-- The walk over operations that yield one value in every world that meets S. -/
def wpHeld (P : Program) (ops : Array Oper) (S : World → Prop) (Q : Act → Prop) : List Oper → Act → Prop
  | [], a => Q a
  | o :: rest, a => if Region.wanted o (yielded ops a.tmps) then ∃ v, (∀ w, S w → (execOp a.eval o).run P w = .ok (.value v) w) ∧ wpHeld P ops S Q rest (a.put o.dst v) else wpHeld P ops S Q rest (a.put o.dst undef)

theorem wpHeld_nil {Q : Act → Prop} {a : Act} (h : Q a) : wpHeld P ops S Q [] a := h
theorem wpHeld_step {Q : Act → Prop} {a : Act} {o : Oper} {rest : List Oper}
    (h : ∀ K : Act → Prop, (∀ a, wpHeld P ops S Q rest a → K a) → if Region.wanted o (yielded ops a.tmps) then ∃ v, (∀ w, S w → (execOp a.eval o).run P w = .ok (.value v) w) ∧ K (a.put o.dst v) else K (a.put o.dst undef)) : wpHeld P ops S Q (o :: rest) a :=
  h _ (fun _ h => h)

/-- The walk of the tail: S holds behind each operation. -/
def wpListS (P : Program) (ops : Array Oper) (S : World → Prop) (Q : Exit → Act → World → Prop) : List Oper → Act → World → Prop
  | [], a, w => Q .normal a w
  | o :: rest, a, w => if Region.wanted o (yielded ops a.tmps) then o.wp P a w (fun a' w' => S w' ∧ wpListS P ops S Q rest a' w') Q else S w ∧ wpListS P ops S Q rest (a.put o.dst undef) w

theorem wpListS_nil {Q : Exit → Act → World → Prop} {a : Act} {w : World} (h : Q .normal a w) : wpListS P ops S Q [] a w := h
theorem wpListS_step {Q : Exit → Act → World → Prop} {a : Act} {w : World} {o : Oper} {rest : List Oper}
    (h : ∀ K : Act → World → Prop, (∀ a w, S w → wpListS P ops S Q rest a w → K a w) → if Region.wanted o (yielded ops a.tmps) then o.wp P a w K Q else K (a.put o.dst undef) w) : wpListS P ops S Q (o :: rest) a w := by
  have := h (fun a w => S w ∧ wpListS P ops S Q rest a w) (fun _ _ h1 h2 => ⟨h1, h2⟩)
  unfold wpListS
  exact this

theorem yieldsIf_of {o : Oper} {a : Act} {Q : Act → Prop} {rest : List Oper} (h : wpHeld P ops S Q (o :: rest) a) : ∃ v, YieldsIf P ops S o v a ∧ wpHeld P ops S Q rest (a.put o.dst v) := by
  unfold wpHeld at h
  by_cases hw : Region.wanted o (yielded ops a.tmps) = true
  · simp only [hw, if_true] at h
    obtain ⟨v, h1, h2⟩ := h
    exact ⟨v, .inl ⟨hw, h1⟩, h2⟩
  · simp only [hw] at h
    exact ⟨undef, .inr ⟨by simpa using hw, rfl⟩, h⟩

theorem yieldsIn_of_yieldsIf {o : Oper} {v : Value} {a : Act} (hCS : ∀ w, C w → S w) (h : YieldsIf P ops S o v a) : YieldsIn P ops C o v a :=
  h.imp (fun ⟨hw, hv⟩ => ⟨hw, fun w hc => by unfold Oper.quietAt; rw [hv w (hCS w hc)]; exact ⟨rfl, rfl⟩⟩) id

/-- Whatever order is picked: the operations of T go by 'wpAnyH'. -/
def wpMS (P : Program) (md : Region.Mode) (ops : Array Oper) (C S : World → Prop) (Q : Exit → Act → World → Prop) (T : List Nat) : Nat → Array Bool → Act → Prop
  | 0, listed, a => ∀ w, C w → wpAnyH P md ops Q S 0 listed a w
  | f + 1, listed, a => (Region.ready md ops listed = [] → ∀ w, C w → Q .normal a w) ∧ ∀ i ∈ Region.ready md ops listed,
      if i ∈ T then ∀ w, C w → wpOp P ops Q i (fun a' w' => S w' ∧ wpAnyH P md ops Q S f (listed.setIfInBounds i true) a' w') a w
      else qOp P ops C i (wpMS P md ops C S Q T f (listed.setIfInBounds i true)) a

theorem wpAnyH_of_wpMS {Q : Exit → Act → World → Prop} {T : List Nat} (hCS : ∀ w, C w → S w) : ∀ (f : Nat) (listed : Array Bool) (a : Act), wpMS P md ops C S Q T f listed a → ∀ w, C w → wpAnyH P md ops Q S f listed a w
  | 0, _, _, h, w, hw => h w hw
  | f + 1, listed, a, h, w, hw => by
    refine ⟨fun h0 => h.1 h0 w hw, fun i hi => ?_⟩
    have h1 := h.2 i hi
    by_cases hT : i ∈ T
    · rw [if_pos hT] at h1
      exact h1 w hw
    · rw [if_neg hT] at h1
      exact wpOp_of_qOp hw (fun a' w' hw' h' => ⟨hCS _ hw', wpAnyH_of_wpMS hCS f _ a' h' w' hw'⟩) h1

theorem wpMS_firstI {Q : Exit → Act → World → Prop} {T : List Nat} {i : Nat} {oi : Oper} {v : Value} (hCS : ∀ w, C w → S w) (hi : ops[i]? = some oi) (hsel : ∀ (j : Nat) (o : Oper) cs b, ops[j]? = some o → o.op ≠ .select cs b)
    (hQ : ∀ c (a : Act) d v w, Q (.panic c) (a.put d v) w → Q (.panic c) a w) (hiT : i ∉ T) :
    ∀ (f : Nat) (listed : Array Bool) (a : Act),
      (∀ j oj, ops[j]? = some oj → j ≠ i → listed.getD j true = false → (∀ e ∈ oj.after, Region.binds md e = true → e.on ≠ i) → oi.apart ops oj = true) →
      i ∈ Region.ready md ops listed → YieldsIf P ops S oi v a →
      wpMS P md ops C S Q T f (listed.setIfInBounds i true) (a.put oi.dst v) → wpMS P md ops C S Q T (f + 1) listed a := by
  intro f
  induction f with
  | zero =>
    intro listed a hfree hr hy H
    refine ⟨fun h => (by rw [h] at hr; cases hr), fun j hj => ?_⟩
    by_cases hji : j = i
    · subst hji; rw [if_neg hiT]; exact (yieldsIn_of_yieldsIf hCS hy).qOp hi H
    · by_cases hex : ∃ w, C w
      · obtain ⟨w, hw⟩ := hex
        have := ready_mono hj hji
        rw [(H w hw).1] at this
        cases this
      · split
        · exact fun w hw => absurd ⟨w, hw⟩ hex
        · obtain ⟨hjun, oj, hoj, hall⟩ := mem_ready.1 hj
          unfold qOp
          simp only [hoj]
          split
          · exact ⟨undef, fun w hw => absurd ⟨w, hw⟩ hex, fun w hw => absurd ⟨w, hw⟩ hex⟩
          · exact fun w hw => absurd ⟨w, hw⟩ hex
  | succ f ih =>
    intro listed a hfree hr hy H
    refine ⟨fun h => (by rw [h] at hr; cases hr), fun j hj => ?_⟩
    by_cases hji : j = i
    · subst hji; rw [if_neg hiT]; exact (yieldsIn_of_yieldsIf hCS hy).qOp hi H
    · have h1 := H.2 j (ready_mono hj hji)
      have hun := (mem_ready.1 hr).1
      obtain ⟨hjun, oj, hoj, hall⟩ := mem_ready.1 hj
      have hap := hfree j oj hoj hji hjun (not_on (md := md) hun hall)
      by_cases hT : j ∈ T
      · rw [if_pos hT] at h1 ⊢
        intro w hw
        have h2 := wpOp_putIf (S := S) hoj hap (fun cs b => hsel i oi cs b hi) (fun cs b => hsel j oj cs b hoj) (fun c a w => hQ c a _ _ w) hy (h1 w hw)
        refine wpOp_mono (fun a' w' h3 => ⟨h3.2.1, ?_⟩) h2
        refine wpAnyH_first hi hsel (fun c a w => hQ c a _ _ w) f (listed.setIfInBounds j true) a' w' (free_next hfree hjun) (ready_mono hr (Ne.symm hji)) h3.1 h3.2.1 ?_
        rw [Array.setIfInBounds_comm _ _ hji]
        exact h3.2.2
      · rw [if_neg hT] at h1 ⊢
        have h2 := qOp_put hoj hap (fun cs b => hsel i oi cs b hi) (fun cs b => hsel j oj cs b hoj) (yieldsIn_of_yieldsIf (C := C) hCS hy) h1
        have h3 : qOp P ops C j (fun a' => YieldsIf P ops S oi v a' ∧ wpMS P md ops C S Q T f ((listed.setIfInBounds i true).setIfInBounds j true) (a'.put oi.dst v)) a := by
          obtain ⟨q1, q2, q3⟩ := Oper.apart_spec hap
          obtain ⟨u, hu, hK⟩ := yieldsIn_of_qOp hoj h2
          exact hu.qOp hoj ⟨hy.of_same (execOp_put oi (fun cs b => hsel i oi cs b hi) a oj.dst u q3) (wanted_put oi a oj.dst u q3), hK.2⟩
        refine qOp_mono (fun a' h4 => ih (listed.setIfInBounds j true) a' (free_next hfree hjun) (ready_mono hr (Ne.symm hji)) h4.1 ?_) h3
        rw [Array.setIfInBounds_comm _ _ hji]
        exact h4.2

theorem wpMS_firstH {Q : Exit → Act → World → Prop} {T : List Nat} {i : Nat} {oi : Oper} {v : Value} (hi : ops[i]? = some oi) (hsel : ∀ (j : Nat) (o : Oper) cs b, ops[j]? = some o → o.op ≠ .select cs b)
    (hiT : i ∉ T) (hbe : ∀ j ∈ T, (behindOf md ops i ops.size).getD j false = true) :
    ∀ (f : Nat) (listed : Array Bool) (a : Act), Closed md ops listed →
      (∀ j oj, ops[j]? = some oj → j ≠ i → listed.getD j true = false → (∀ e ∈ oj.after, Region.binds md e = true → e.on ≠ i) → oi.apart ops oj = true) →
      i ∈ Region.ready md ops listed → YieldsIn P ops C oi v a →
      wpMS P md ops C S Q T f (listed.setIfInBounds i true) (a.put oi.dst v) → wpMS P md ops C S Q T (f + 1) listed a := by
  intro f
  induction f with
  | zero =>
    intro listed a hc hfree hr hy H
    refine ⟨fun h => (by rw [h] at hr; cases hr), fun j hj => ?_⟩
    have hjT : j ∉ T := fun hT => by
      have hji : j ≠ i := fun e => hiT (e ▸ hT)
      exact not_ready_of_behind hc (getD_ff (mem_ready.1 hr).1) hji (hbe j hT) hj
    rw [if_neg hjT]
    by_cases hji : j = i
    · subst hji; exact hy.qOp hi H
    · by_cases hex : ∃ w, C w
      · obtain ⟨w, hw⟩ := hex
        have := ready_mono hj hji
        rw [(H w hw).1] at this
        cases this
      · obtain ⟨hjun, oj, hoj, hall⟩ := mem_ready.1 hj
        unfold qOp
        simp only [hoj]
        split
        · exact ⟨undef, fun w hw => absurd ⟨w, hw⟩ hex, fun w hw => absurd ⟨w, hw⟩ hex⟩
        · exact fun w hw => absurd ⟨w, hw⟩ hex
  | succ f ih =>
    intro listed a hc hfree hr hy H
    refine ⟨fun h => (by rw [h] at hr; cases hr), fun j hj => ?_⟩
    have hjT : j ∉ T := fun hT => by
      have hji : j ≠ i := fun e => hiT (e ▸ hT)
      exact not_ready_of_behind hc (getD_ff (mem_ready.1 hr).1) hji (hbe j hT) hj
    rw [if_neg hjT]
    by_cases hji : j = i
    · subst hji; exact hy.qOp hi H
    · have h1 := H.2 j (ready_mono hj hji)
      rw [if_neg hjT] at h1
      have hun := (mem_ready.1 hr).1
      obtain ⟨hjun, oj, hoj, hall⟩ := mem_ready.1 hj
      have h2 := qOp_put hoj (hfree j oj hoj hji hjun (not_on (md := md) hun hall)) (fun cs b => hsel i oi cs b hi) (fun cs b => hsel j oj cs b hoj) hy h1
      refine qOp_mono (fun a' h3 => ih (listed.setIfInBounds j true) a' (hc.set hj) (free_next hfree hjun) (ready_mono hr (Ne.symm hji)) h3.1 ?_) h2
      rw [Array.setIfInBounds_comm _ _ hji]
      exact h3.2

theorem wpAnyH_of_seqOn {Q : Exit → Act → World → Prop} {l : List Oper} (hl : ops = l.toArray) : ∀ (T : List Nat) (listed : Array Bool) (a : Act) (w : World), seqOn md ops T listed = true →
    wpListS P ops S Q (sel l T) a w → wpAnyH P md ops Q S T.length listed a w
  | [], _, _, _, hB, h => ⟨by simpa [seqOn] using hB, h⟩
  | i :: r, listed, a, w, hB, h => by
    simp only [seqOn, Bool.and_eq_true, decide_eq_true_eq] at hB
    have hmem : i ∈ Region.ready md ops listed := by rw [hB.1]; simp
    obtain ⟨_, o, ho, _⟩ := mem_ready.1 hmem
    have ho' : l[i]? = some o := by subst hl; simpa using ho
    refine ⟨fun h1 => (by rw [hB.1] at h1; cases h1), fun k hk => ?_⟩
    rw [hB.1] at hk
    have hki : k = i := by simpa using hk
    subst hki
    have h' : wpListS P ops S Q (o :: sel l r) a w := by simpa [sel, ho'] using h
    have hw : wpOp P ops Q k (fun a' w' => S w' ∧ wpListS P ops S Q (sel l r) a' w') a w := by
      unfold wpOp
      simp only [ho]
      unfold wpListS at h'
      split
      · rename_i hwt; rw [if_pos hwt] at h'; exact .inl h'
      · rename_i hwt; rw [if_neg hwt] at h'; exact h'
    exact wpOp_mono (fun a' w' h'' => ⟨h''.1, wpAnyH_of_seqOn hl r _ a' w' hB.2 h''.2⟩) hw

theorem wpMS_ordI {Q : Exit → Act → World → Prop} {l : List Oper} (hCS : ∀ w, C w → S w) (hl : ops = l.toArray) (hQ : ∀ c (a : Act) d v w, Q (.panic c) (a.put d v) w → Q (.panic c) a w) (hsel : Region.noSelect ops = true) {T : List Nat} :
    ∀ (I : List Nat) (listed : Array Bool) (a : Act), ordI md ops T I listed = true → wpHeld P ops S (fun a' => ∀ w, C w → wpListS P ops S Q (sel l T) a' w) (sel l I) a → wpMS P md ops C S Q T (I.length + T.length) listed a
  | [], listed, a, hB, h => by
    simp only [ordI] at hB
    have key : ∀ w, C w → wpAnyH P md ops Q S T.length listed a w := fun w hw => wpAnyH_of_seqOn hl T listed a w hB (h w hw)
    simp only [List.length_nil, Nat.zero_add]
    cases T with
    | nil => exact key
    | cons i r =>
      simp only [seqOn, Bool.and_eq_true, decide_eq_true_eq] at hB
      refine ⟨fun h1 => (by rw [hB.1] at h1; cases h1), fun k hk => ?_⟩
      have hk' := hk
      rw [hB.1] at hk'
      have hki : k = i := by simpa using hk'
      subst hki
      rw [if_pos (by simp)]
      exact fun w hw => (key w hw).2 k hk
  | i :: r, listed, a, hB, h => by
    simp only [ordI, Bool.and_eq_true, Bool.not_eq_true'] at hB
    obtain ⟨⟨⟨hT, hr⟩, hf⟩, hB'⟩ := hB
    have hr' : i ∈ Region.ready md ops listed := by simpa using hr
    obtain ⟨_, o, ho, _⟩ := mem_ready.1 hr'
    have ho' : l[i]? = some o := by subst hl; simpa using ho
    have h' : wpHeld P ops S (fun a' => ∀ w, C w → wpListS P ops S Q (sel l T) a' w) (o :: sel l r) a := by simpa [sel, ho'] using h
    obtain ⟨v, hy, hK⟩ := yieldsIf_of h'
    rw [show (i :: r).length + T.length = (r.length + T.length) + 1 by simp only [List.length_cons]; omega]
    exact wpMS_firstI hCS ho (Region.noSelect_spec hsel) hQ (by simpa using hT) _ listed a (Region.free_spec ho hf) hr' hy (wpMS_ordI hCS hl hQ hsel r _ _ hB' hK)

theorem wpMS_ordH {Q : Exit → Act → World → Prop} {l : List Oper} (hCS : ∀ w, C w → S w) (hl : ops = l.toArray) (hQ : ∀ c (a : Act) d v w, Q (.panic c) (a.put d v) w → Q (.panic c) a w) (hsel : Region.noSelect ops = true) {I T : List Nat} :
    ∀ (H : List Nat) (listed : Array Bool) (a : Act), Closed md ops listed → ordH md ops I T H listed = true → wpQuiet P ops C (fun a1 => wpHeld P ops S (fun a' => ∀ w, C w → wpListS P ops S Q (sel l T) a' w) (sel l I) a1) (sel l H) a →
    wpMS P md ops C S Q T (H.length + (I.length + T.length)) listed a
  | [], listed, a, _, hB, h => by
    simp only [ordH] at hB
    simp only [List.length_nil, Nat.zero_add]
    exact wpMS_ordI hCS hl hQ hsel I listed a hB h
  | i :: r, listed, a, hc, hB, h => by
    simp only [ordH, Bool.and_eq_true, Bool.not_eq_true'] at hB
    obtain ⟨⟨⟨⟨hT, hbe⟩, hr⟩, hf⟩, hB'⟩ := hB
    have hr' : i ∈ Region.ready md ops listed := by simpa using hr
    obtain ⟨_, o, ho, _⟩ := mem_ready.1 hr'
    have ho' : l[i]? = some o := by subst hl; simpa using ho
    have hst : qOp P ops C i (wpQuiet P ops C (fun a1 => wpHeld P ops S (fun a' => ∀ w, C w → wpListS P ops S Q (sel l T) a' w) (sel l I) a1) (sel l r)) a := by
      have h' : wpQuiet P ops C (fun a1 => wpHeld P ops S (fun a' => ∀ w, C w → wpListS P ops S Q (sel l T) a' w) (sel l I) a1) (o :: sel l r) a := by simpa [sel, ho'] using h
      unfold qOp; simp only [ho]; exact h'
    obtain ⟨v, hy, hK⟩ := yieldsIn_of_qOp ho hst
    rw [show (i :: r).length + (I.length + T.length) = (r.length + (I.length + T.length)) + 1 by simp only [List.length_cons]; omega]
    exact wpMS_firstH ho (Region.noSelect_spec hsel) (by simpa using hT) (fun j hj => List.all_eq_true.1 hbe j hj) _ listed a hc (Region.free_spec ho hf) hr' hy (wpMS_ordH hCS hl hQ hsel r _ _ (hc.set hr') hB' hK)

/-- One walk of the chosen order serves every order, S held. -/
theorem wp_region_ordS {id : Nat} {Q : Exit → Act → World → Prop} {a : Act} {w : World} {l : List Oper} (S : World → Prop) (H I T : List Nat) (hm : P.follows .mixedOrders = true) (hB : ordB l.toArray H I T = true)
    (hQ : ∀ c (a : Act) d v w, Q (.panic c) (a.put d v) w → Q (.panic c) a w) (hS : ∀ k, S (w.drewN k))
    (h : wpQuiet P l.toArray (fun w' => ∃ k, w' = w.drewN k) (fun a1 => wpHeld P l.toArray S (fun a' => ∀ w', (∃ k, w' = w.drewN k) → wpListS P l.toArray S Q (sel l T) a' w') (sel l I) a1) (sel l H) a) : (Code.region id l.toArray true).wp P Q a w := by
  simp only [ordB, Bool.and_eq_true, decide_eq_true_eq] at hB
  obtain ⟨⟨hsel, hlen⟩, hmix⟩ := hB
  have hCS : ∀ w', (∃ k, w' = w.drewN k) → S w' := by rintro _ ⟨k, rfl⟩; exact hS k
  refine wp_region_held (S := S) hm ?_
  have := wpAnyH_of_wpMS hCS _ _ _ (wpMS_ordH (P := P) (C := fun w' => ∃ k, w' = w.drewN k) (md := .any) hCS rfl hQ hsel H (Array.replicate l.toArray.size false) a (fun j oj _ hl => by rw [getD_replicate_false] at hl; cases hl) hmix h) { w with drawn := w.drawn + 1 } ⟨1, rfl⟩
  rwa [hlen] at this

end
end Go.Proofs.YtanmfldgillodaaGreat
