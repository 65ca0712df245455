/- Part 1 of the proof: Region, Lib, Once, CrcMath, Crc, Crc2, RegionS, Codec, Unframe, UnframeRef, Frame, RegionJ, Write, Put0, Data, Put1, Write2, Write3, Strings, Cw0. -/
import Derived.WalkKit
import Derived.Deep.QuietTactic
import Derived.BigQuiet
import Derived.StillTailTactics
import Derived.WalkSpells
import Derived.WalkLawsBesides
import Derived.Handy
import Derived.Deep.AppendSrc
import Derived.Lib.Hide
import Derived.Lib.MinMax
import Derived.Test.YtmbjealliinpdaaGreatRows
import Derived.Defers
import Derived.Laws.Pointers
import Derived.Laws.LoneSync
import Derived.RegionTactic
import Derived.RegionCalls
import Derived.Laws.NewBlocks
import Derived.ProofKit
import Derived.OrdersHeld
import Derived.Lib.ConvBytes
set_option linter.unusedSimpArgs false
set_option linter.unusedVariables false
set_option maxRecDepth 100000
set_option maxHeartbeats 16000000
section

namespace Go.Proofs.YtmbjealliinpdaaGreat
open Go.RowKit
section
variable {P : Program} {ops : Array Oper} {md : Region.Mode} {C : World → Prop}
/-- Which operations wait for operation k, by however many steps. -/
def behindOf (md : Region.Mode) (ops : Array Oper) (k : Nat) : Nat → List Bool
  | 0 => []
  | i + 1 =>
    let b := behindOf md ops k i
    b ++ [decide (i = k) || (match ops[i]? with | some o => o.after.any (fun e => Region.binds md e && decide (e.on < i) && b.getD e.on false) | none => false)]
theorem behindOf_length (md : Region.Mode) (ops : Array Oper) (k : Nat) : ∀ n, (behindOf md ops k n).length = n
  | 0 => rfl
  | n + 1 => by simp [behindOf, behindOf_length md ops k n]
theorem behindOf_spec (md : Region.Mode) (ops : Array Oper) (k : Nat) : ∀ (n i : Nat), (behindOf md ops k n).getD i false = true →
    i = k ∨ ∃ o, ops[i]? = some o ∧ ∃ e ∈ o.after, Region.binds md e = true ∧ e.on < i ∧ (behindOf md ops k i).getD e.on false = true
  | 0, i, h => by simp [behindOf] at h
  | n + 1, i, h => by
    rcases Nat.lt_trichotomy i n with hi | hi | hi
    · refine behindOf_spec md ops k n i ?_
      simp only [behindOf, List.getD_eq_getElem?_getD] at h
      rw [List.getElem?_append_left (by rw [behindOf_length]; exact hi)] at h
      simpa [List.getD_eq_getElem?_getD] using h
    · subst hi
      simp only [behindOf, List.getD_eq_getElem?_getD] at h
      rw [List.getElem?_append_right (by rw [behindOf_length]; exact Nat.le_refl _), behindOf_length, Nat.sub_self] at h
      simp only [List.getElem?_cons_zero, Option.getD_some, Bool.or_eq_true, decide_eq_true_eq] at h
      rcases h with h | h
      · exact .inl h
      · cases ho : ops[i]? with
        | none => rw [ho] at h; cases h
        | some o =>
          rw [ho] at h
          obtain ⟨e, he, hb⟩ := Array.any_eq_true'.1 h
          simp only [Bool.and_eq_true, decide_eq_true_eq] at hb
          exact .inr ⟨o, rfl, e, he, hb.1.1, hb.1.2, by simpa [List.getD_eq_getElem?_getD] using hb.2⟩
    · have : (behindOf md ops k (n + 1))[i]? = none := List.getElem?_eq_none (by rw [behindOf_length]; omega)
      rw [List.getD_eq_getElem?_getD, this] at h
      cases h
/-- What has come up is closed: all that it waits for has come up too. -/
def Closed (md : Region.Mode) (ops : Array Oper) (listed : Array Bool) : Prop :=
  ∀ j oj, ops[j]? = some oj → listed.getD j false = true → ∀ e ∈ oj.after, Region.binds md e = true → listed.getD e.on false = true
theorem Closed.set {listed : Array Bool} {i : Nat} (h : Closed md ops listed) (hi : i ∈ Region.ready md ops listed) : Closed md ops (listed.setIfInBounds i true) := by
  obtain ⟨_, oi, hoi, hall⟩ := mem_ready.1 hi
  intro j oj hj hl e he hb
  by_cases hij : i = j
  · subst hij
    have : oj = oi := Option.some.inj (hj.symm.trans hoi)
    subst this
    exact getD_set_true (hall e he hb)
  · rw [getD_set_ne false hij] at hl
    exact getD_set_true (h j oj hj hl e he hb)
theorem unlisted_of_behind {listed : Array Bool} {k : Nat} (hc : Closed md ops listed) (hk : listed.getD k false = false) : ∀ (i n : Nat), (behindOf md ops k n).getD i false = true → listed.getD i false = false := by
  intro i
  induction i using Nat.strongRecOn with
  | _ i ih =>
    intro n h
    rcases behindOf_spec md ops k n i h with rfl | ⟨o, ho, e, he, hb, hlt, hB⟩
    · exact hk
    · have h1 := ih e.on hlt i hB
      cases hl : listed.getD i false with
      | false => rfl
      | true =>
        have := hc i o ho hl e he hb
        rw [h1] at this
        cases this
theorem not_ready_of_behind {listed : Array Bool} {k : Nat} (hc : Closed md ops listed) (hk : listed.getD k false = false) {i n : Nat} (hne : i ≠ k) (h : (behindOf md ops k n).getD i false = true) : i ∉ Region.ready md ops listed := by
  intro hr
  rcases behindOf_spec md ops k n i h with rfl | ⟨o, ho, e, he, hb, hlt, hB⟩
  · exact hne rfl
  · obtain ⟨_, o', ho', hall⟩ := mem_ready.1 hr
    have : o' = o := Option.some.inj (ho'.symm.trans ho)
    subst this
    have h1 := unlisted_of_behind hc hk e.on i hB
    have h2 := hall e he hb
    rw [h1] at h2
    cases h2
theorem getD_ff {listed : Array Bool} {i : Nat} (h : listed.getD i true = false) : listed.getD i false = false := by
  rcases Nat.lt_or_ge i listed.size with h' | h'
  · simp [h'] at h ⊢; exact h
  · simp [Array.getElem?_eq_none h'] at h
/-! ### The same with the order chosen: H reads, I hangs on no world, T is forced. -/
/-- The operations of these numbers. -/
def sel (l : List Oper) (is : List Nat) : List Oper := is.filterMap fun i => l[i]?
/-- Operation i, which hangs on no world. -/
def iOp (P : Program) (ops : Array Oper) (i : Nat) (K : Act → Prop) (a : Act) : Prop :=
  match ops[i]? with
  | none => K a
  | some o => if Region.wanted o (yielded ops a.tmps) then ∃ v, (∀ w, (execOp a.eval o).run P w = .ok (.value v) w) ∧ K (a.put o.dst v) else K (a.put o.dst undef)
/-- The walk over operations that hang on no world. -/
def wpIdle (P : Program) (ops : Array Oper) (Q : Act → Prop) : List Oper → Act → Prop
  | [], a => Q a
  | o :: rest, a => if Region.wanted o (yielded ops a.tmps) then ∃ v, (∀ w, (execOp a.eval o).run P w = .ok (.value v) w) ∧ wpIdle P ops Q rest (a.put o.dst v) else wpIdle P ops Q rest (a.put o.dst undef)
theorem wpIdle_nil {Q : Act → Prop} {a : Act} (h : Q a) : wpIdle P ops Q [] a := h
theorem wpIdle_step {Q : Act → Prop} {a : Act} {o : Oper} {rest : List Oper}
    (h : ∀ K : Act → Prop, (∀ a, wpIdle P ops Q rest a → K a) → if Region.wanted o (yielded ops a.tmps) then ∃ v, (∀ w, (execOp a.eval o).run P w = .ok (.value v) w) ∧ K (a.put o.dst v) else K (a.put o.dst undef)) : wpIdle P ops Q (o :: rest) a :=
  h _ (fun _ h => h)
theorem yields_of_iOp {i : Nat} {o : Oper} {a : Act} {K : Act → Prop} (hi : ops[i]? = some o) (h : iOp P ops i K a) : ∃ v, Yields P ops o v a ∧ K (a.put o.dst v) := by
  unfold iOp at h
  simp only [hi] at h
  by_cases hw : Region.wanted o (yielded ops a.tmps) = true
  · simp only [hw, if_true] at h
    obtain ⟨v, h1, h2⟩ := h
    exact ⟨v, .inl ⟨hw, h1⟩, h2⟩
  · simp only [hw] at h
    exact ⟨undef, .inr ⟨by simpa using hw, rfl⟩, h⟩
theorem yieldsIn_of_yields {o : Oper} {v : Value} {a : Act} (h : Yields P ops o v a) : YieldsIn P ops C o v a :=
  h.imp (fun ⟨hw, hv⟩ => ⟨hw, fun w _ => by unfold Oper.quietAt; rw [hv w]; exact ⟨rfl, rfl⟩⟩) id
/-- Whatever order is picked: the operations of T go by 'wpAny'. -/
def wpM (P : Program) (md : Region.Mode) (ops : Array Oper) (C : World → Prop) (Q : Exit → Act → World → Prop) (T : List Nat) : Nat → Array Bool → Act → Prop
  | 0, listed, a => ∀ w, C w → wpAny P md ops Q 0 listed a w
  | f + 1, listed, a => (Region.ready md ops listed = [] → ∀ w, C w → Q .normal a w) ∧ ∀ i ∈ Region.ready md ops listed,
      if i ∈ T then ∀ w, C w → wpOp P ops Q i (fun a' w' => wpAny P md ops Q f (listed.setIfInBounds i true) a' w') a w
      else qOp P ops C i (wpM P md ops C Q T f (listed.setIfInBounds i true)) a
theorem wpAny_of_wpM {Q : Exit → Act → World → Prop} {T : List Nat} : ∀ (f : Nat) (listed : Array Bool) (a : Act), wpM P md ops C Q T f listed a → ∀ w, C w → wpAny P md ops Q f listed a w
  | 0, _, _, h, w, hw => h w hw
  | f + 1, listed, a, h, w, hw => by
    refine ⟨fun h0 => h.1 h0 w hw, fun i hi => ?_⟩
    have h1 := h.2 i hi
    by_cases hT : i ∈ T
    · rw [if_pos hT] at h1
      exact h1 w hw
    · rw [if_neg hT] at h1
      exact wpOp_of_qOp hw (fun a' w' hw' h' => wpAny_of_wpM f _ a' h' w' hw') h1
theorem free_next {md : Region.Mode} {i : Nat} {oi : Oper} {listed : Array Bool} (hfree : ∀ j oj, ops[j]? = some oj → j ≠ i → listed.getD j true = false → (∀ e ∈ oj.after, Region.binds md e = true → e.on ≠ i) → oi.apart ops oj = true) {j : Nat} (hjun : listed.getD j true = false) :
    ∀ k ok, ops[k]? = some ok → k ≠ i → (listed.setIfInBounds j true).getD k true = false → (∀ e ∈ ok.after, Region.binds md e = true → e.on ≠ i) → oi.apart ops ok = true := fun k ok hk hki hun hno => by
  refine hfree k ok hk hki ?_ hno
  by_cases hjk : j = k
  · subst hjk; exact hjun
  · rw [getD_set_ne true hjk] at hun; exact hun
theorem not_on {md : Region.Mode} {i : Nat} {oj : Oper} {listed : Array Bool} (hun : listed.getD i true = false) (hall : ∀ e ∈ oj.after, Region.binds md e = true → listed.getD e.on false = true) :
    ∀ e ∈ oj.after, Region.binds md e = true → e.on ≠ i := fun e he hb heq => by
  have h1 := hall e he hb
  rw [heq, getD_ff hun] at h1
  cases h1
/-- One that hangs on no world may be taken first. -/
theorem wpM_firstI {Q : Exit → Act → World → Prop} {T : List Nat} {i : Nat} {oi : Oper} {v : Value} (hi : ops[i]? = some oi) (hsel : ∀ (j : Nat) (o : Oper) cs b, ops[j]? = some o → o.op ≠ .select cs b)
    (hQ : ∀ c (a : Act) d v w, Q (.panic c) (a.put d v) w → Q (.panic c) a w) (hiT : i ∉ T) :
    ∀ (f : Nat) (listed : Array Bool) (a : Act),
      (∀ j oj, ops[j]? = some oj → j ≠ i → listed.getD j true = false → (∀ e ∈ oj.after, Region.binds md e = true → e.on ≠ i) → oi.apart ops oj = true) →
      i ∈ Region.ready md ops listed → Yields P ops oi v a →
      wpM P md ops C Q T f (listed.setIfInBounds i true) (a.put oi.dst v) → wpM P md ops C Q T (f + 1) listed a := by
  intro f
  induction f with
  | zero =>
    intro listed a hfree hr hy H
    refine ⟨fun h => (by rw [h] at hr; cases hr), fun j hj => ?_⟩
    by_cases hji : j = i
    · subst hji; rw [if_neg hiT]; exact (yieldsIn_of_yields hy).qOp hi H
    · by_cases hex : ∃ w, C w
      · obtain ⟨w, hw⟩ := hex
        have := ready_mono hj hji
        rw [(H w hw).1] at this
        cases this
      · split
        · exact fun w hw => absurd ⟨w, hw⟩ hex
        · obtain ⟨hjun, oj, hoj, hall⟩ := mem_ready.1 hj
          unfold qOp
          simp only [hoj]
          split
          · exact ⟨undef, fun w hw => absurd ⟨w, hw⟩ hex, fun w hw => absurd ⟨w, hw⟩ hex⟩
          · exact fun w hw => absurd ⟨w, hw⟩ hex
  | succ f ih =>
    intro listed a hfree hr hy H
    refine ⟨fun h => (by rw [h] at hr; cases hr), fun j hj => ?_⟩
    by_cases hji : j = i
    · subst hji; rw [if_neg hiT]; exact (yieldsIn_of_yields hy).qOp hi H
    · have h1 := H.2 j (ready_mono hj hji)
      have hun := (mem_ready.1 hr).1
      obtain ⟨hjun, oj, hoj, hall⟩ := mem_ready.1 hj
      have hap := hfree j oj hoj hji hjun (not_on (md := md) hun hall)
      by_cases hT : j ∈ T
      · rw [if_pos hT] at h1 ⊢
        intro w hw
        have h2 := wpOp_put hoj hap (fun cs b => hsel i oi cs b hi) (fun cs b => hsel j oj cs b hoj) (fun c a w => hQ c a _ _ w) hy (h1 w hw)
        refine wpOp_mono (fun a' w' h3 => ?_) h2
        refine wpAny_first hi hsel (fun c a w => hQ c a _ _ w) f (listed.setIfInBounds j true) a' w' (free_next hfree hjun) (ready_mono hr (Ne.symm hji)) h3.1 ?_
        rw [Array.setIfInBounds_comm _ _ hji]
        exact h3.2
      · rw [if_neg hT] at h1 ⊢
        have h2 := qOp_put hoj hap (fun cs b => hsel i oi cs b hi) (fun cs b => hsel j oj cs b hoj) (yieldsIn_of_yields (C := C) hy) h1
        -- the value is the same in every world, whatever has come up
        have h3 : qOp P ops C j (fun a' => Yields P ops oi v a' ∧ wpM P md ops C Q T f ((listed.setIfInBounds i true).setIfInBounds j true) (a'.put oi.dst v)) a := by
          obtain ⟨q1, q2, q3⟩ := Oper.apart_spec hap
          obtain ⟨u, hu, hK⟩ := yieldsIn_of_qOp hoj h2
          exact hu.qOp hoj ⟨hy.of_same (execOp_put oi (fun cs b => hsel i oi cs b hi) a oj.dst u q3) (wanted_put oi a oj.dst u q3), hK.2⟩
        refine qOp_mono (fun a' h4 => ih (listed.setIfInBounds j true) a' (free_next hfree hjun) (ready_mono hr (Ne.symm hji)) h4.1 ?_) h3
        rw [Array.setIfInBounds_comm _ _ hji]
        exact h4.2
/-- One that reads may be taken first, where all of T wait for it. -/
theorem wpM_firstH {Q : Exit → Act → World → Prop} {T : List Nat} {i : Nat} {oi : Oper} {v : Value} (hi : ops[i]? = some oi) (hsel : ∀ (j : Nat) (o : Oper) cs b, ops[j]? = some o → o.op ≠ .select cs b)
    (hiT : i ∉ T) (hbe : ∀ j ∈ T, (behindOf md ops i ops.size).getD j false = true) :
    ∀ (f : Nat) (listed : Array Bool) (a : Act), Closed md ops listed →
      (∀ j oj, ops[j]? = some oj → j ≠ i → listed.getD j true = false → (∀ e ∈ oj.after, Region.binds md e = true → e.on ≠ i) → oi.apart ops oj = true) →
      i ∈ Region.ready md ops listed → YieldsIn P ops C oi v a →
      wpM P md ops C Q T f (listed.setIfInBounds i true) (a.put oi.dst v) → wpM P md ops C Q T (f + 1) listed a := by
  intro f
  induction f with
  | zero =>
    intro listed a hc hfree hr hy H
    refine ⟨fun h => (by rw [h] at hr; cases hr), fun j hj => ?_⟩
    have hjT : j ∉ T := fun hT => by
      have hji : j ≠ i := fun e => hiT (e ▸ hT)
      exact not_ready_of_behind hc (getD_ff (mem_ready.1 hr).1) hji (hbe j hT) hj
    rw [if_neg hjT]
    by_cases hji : j = i
    · subst hji; exact hy.qOp hi H
    · by_cases hex : ∃ w, C w
      · obtain ⟨w, hw⟩ := hex
        have := ready_mono hj hji
        rw [(H w hw).1] at this
        cases this
      · obtain ⟨hjun, oj, hoj, hall⟩ := mem_ready.1 hj
        unfold qOp
        simp only [hoj]
        split
        · exact ⟨undef, fun w hw => absurd ⟨w, hw⟩ hex, fun w hw => absurd ⟨w, hw⟩ hex⟩
        · exact fun w hw => absurd ⟨w, hw⟩ hex
  | succ f ih =>
    intro listed a hc hfree hr hy H
    refine ⟨fun h => (by rw [h] at hr; cases hr), fun j hj => ?_⟩
    have hjT : j ∉ T := fun hT => by
      have hji : j ≠ i := fun e => hiT (e ▸ hT)
      exact not_ready_of_behind hc (getD_ff (mem_ready.1 hr).1) hji (hbe j hT) hj
    rw [if_neg hjT]
    by_cases hji : j = i
    · subst hji; exact hy.qOp hi H
    · have h1 := H.2 j (ready_mono hj hji)
      rw [if_neg hjT] at h1
      have hun := (mem_ready.1 hr).1
      obtain ⟨hjun, oj, hoj, hall⟩ := mem_ready.1 hj
      have h2 := qOp_put hoj (hfree j oj hoj hji hjun (not_on (md := md) hun hall)) (fun cs b => hsel i oi cs b hi) (fun cs b => hsel j oj cs b hoj) hy h1
      refine qOp_mono (fun a' h3 => ih (listed.setIfInBounds j true) a' (hc.set hj) (free_next hfree hjun) (ready_mono hr (Ne.symm hji)) h3.1 ?_) h2
      rw [Array.setIfInBounds_comm _ _ hji]
      exact h3.2
/-- The tail: each operation is the only one that may come up. -/
def seqOn (md : Region.Mode) (ops : Array Oper) : List Nat → Array Bool → Bool
  | [], listed => (Region.ready md ops listed).isEmpty
  | i :: r, listed => decide (Region.ready md ops listed = [i]) && seqOn md ops r (listed.setIfInBounds i true)
theorem wpAny_of_seqOn {Q : Exit → Act → World → Prop} {l : List Oper} (hl : ops = l.toArray) : ∀ (T : List Nat) (listed : Array Bool) (a : Act) (w : World), seqOn md ops T listed = true →
    wpList P ops Q (sel l T) a w → wpAny P md ops Q T.length listed a w
  | [], _, _, _, hB, h => ⟨by simpa [seqOn] using hB, h⟩
  | i :: r, listed, a, w, hB, h => by
    simp only [seqOn, Bool.and_eq_true, decide_eq_true_eq] at hB
    have hmem : i ∈ Region.ready md ops listed := by rw [hB.1]; simp
    obtain ⟨_, o, ho, _⟩ := mem_ready.1 hmem
    have ho' : l[i]? = some o := by subst hl; simpa using ho
    refine ⟨fun h1 => (by rw [hB.1] at h1; cases h1), fun k hk => ?_⟩
    rw [hB.1] at hk
    have hki : k = i := by simpa using hk
    subst hki
    have h' : wpList P ops Q (o :: sel l r) a w := by simpa [sel, ho'] using h
    have hw : wpOp P ops Q k (wpList P ops Q (sel l r)) a w := by unfold wpOp; simp only [ho]; exact h'
    exact wpOp_mono (fun a' w' h'' => wpAny_of_seqOn hl r _ a' w' hB.2 h'') hw
def ordI (md : Region.Mode) (ops : Array Oper) (T : List Nat) : List Nat → Array Bool → Bool
  | [], listed => seqOn md ops T listed
  | i :: r, listed => !T.contains i && (Region.ready md ops listed).contains i && Region.free md ops listed i && ordI md ops T r (listed.setIfInBounds i true)
def ordH (md : Region.Mode) (ops : Array Oper) (I T : List Nat) : List Nat → Array Bool → Bool
  | [], listed => ordI md ops T I listed
  | i :: r, listed => !T.contains i && T.all (fun j => (behindOf md ops i ops.size).getD j false) && (Region.ready md ops listed).contains i && Region.free md ops listed i && ordH md ops I T r (listed.setIfInBounds i true)
theorem wpM_ordI {Q : Exit → Act → World → Prop} {l : List Oper} (hl : ops = l.toArray) (hQ : ∀ c (a : Act) d v w, Q (.panic c) (a.put d v) w → Q (.panic c) a w) (hsel : Region.noSelect ops = true) {T : List Nat} :
    ∀ (I : List Nat) (listed : Array Bool) (a : Act), ordI md ops T I listed = true → wpIdle P ops (fun a' => ∀ w, C w → wpList P ops Q (sel l T) a' w) (sel l I) a → wpM P md ops C Q T (I.length + T.length) listed a
  | [], listed, a, hB, h => by
    simp only [ordI] at hB
    have key : ∀ w, C w → wpAny P md ops Q T.length listed a w := fun w hw => wpAny_of_seqOn hl T listed a w hB (h w hw)
    simp only [List.length_nil, Nat.zero_add]
    cases T with
    | nil => exact key
    | cons i r =>
      simp only [seqOn, Bool.and_eq_true, decide_eq_true_eq] at hB
      refine ⟨fun h1 => (by rw [hB.1] at h1; cases h1), fun k hk => ?_⟩
      have hk' := hk
      rw [hB.1] at hk'
      have hki : k = i := by simpa using hk'
      subst hki
      rw [if_pos (by simp)]
      exact fun w hw => (key w hw).2 k hk
  | i :: r, listed, a, hB, h => by
    simp only [ordI, Bool.and_eq_true, Bool.not_eq_true'] at hB
    obtain ⟨⟨⟨hT, hr⟩, hf⟩, hB'⟩ := hB
    have hr' : i ∈ Region.ready md ops listed := by simpa using hr
    obtain ⟨_, o, ho, _⟩ := mem_ready.1 hr'
    have ho' : l[i]? = some o := by subst hl; simpa using ho
    have hst : iOp P ops i (wpIdle P ops (fun a' => ∀ w, C w → wpList P ops Q (sel l T) a' w) (sel l r)) a := by
      have h' : wpIdle P ops (fun a' => ∀ w, C w → wpList P ops Q (sel l T) a' w) (o :: sel l r) a := by simpa [sel, ho'] using h
      unfold iOp; simp only [ho]; exact h'
    obtain ⟨v, hy, hK⟩ := yields_of_iOp ho hst
    rw [show (i :: r).length + T.length = (r.length + T.length) + 1 by simp only [List.length_cons]; omega]
    exact wpM_firstI ho (Region.noSelect_spec hsel) hQ (by simpa using hT) _ listed a (Region.free_spec ho hf) hr' hy (wpM_ordI hl hQ hsel r _ _ hB' hK)
theorem wpM_ordH {Q : Exit → Act → World → Prop} {l : List Oper} (hl : ops = l.toArray) (hQ : ∀ c (a : Act) d v w, Q (.panic c) (a.put d v) w → Q (.panic c) a w) (hsel : Region.noSelect ops = true) {I T : List Nat} :
    ∀ (H : List Nat) (listed : Array Bool) (a : Act), Closed md ops listed → ordH md ops I T H listed = true → wpQuiet P ops C (fun a1 => wpIdle P ops (fun a' => ∀ w, C w → wpList P ops Q (sel l T) a' w) (sel l I) a1) (sel l H) a →
    wpM P md ops C Q T (H.length + (I.length + T.length)) listed a
  | [], listed, a, _, hB, h => by
    simp only [ordH] at hB
    simp only [List.length_nil, Nat.zero_add]
    exact wpM_ordI hl hQ hsel I listed a hB h
  | i :: r, listed, a, hc, hB, h => by
    simp only [ordH, Bool.and_eq_true, Bool.not_eq_true'] at hB
    obtain ⟨⟨⟨⟨hT, hbe⟩, hr⟩, hf⟩, hB'⟩ := hB
    have hr' : i ∈ Region.ready md ops listed := by simpa using hr
    obtain ⟨_, o, ho, _⟩ := mem_ready.1 hr'
    have ho' : l[i]? = some o := by subst hl; simpa using ho
    have hst : qOp P ops C i (wpQuiet P ops C (fun a1 => wpIdle P ops (fun a' => ∀ w, C w → wpList P ops Q (sel l T) a' w) (sel l I) a1) (sel l r)) a := by
      have h' : wpQuiet P ops C (fun a1 => wpIdle P ops (fun a' => ∀ w, C w → wpList P ops Q (sel l T) a' w) (sel l I) a1) (o :: sel l r) a := by simpa [sel, ho'] using h
      unfold qOp; simp only [ho]; exact h'
    obtain ⟨v, hy, hK⟩ := yieldsIn_of_qOp ho hst
    rw [show (i :: r).length + (I.length + T.length) = (r.length + (I.length + T.length)) + 1 by simp only [List.length_cons]; omega]
    exact wpM_firstH ho (Region.noSelect_spec hsel) (by simpa using hT) (fun j hj => List.all_eq_true.1 hbe j hj) _ listed a hc (Region.free_spec ho hf) hr' hy (wpM_ordH hl hQ hsel r _ _ (hc.set hr') hB' hK)
/-- The check of a whole region. -/
def ordB (ops : Array Oper) (H I T : List Nat) : Bool := Region.noSelect ops && decide (H.length + (I.length + T.length) = ops.size) && ordH .any ops I T H (Array.replicate ops.size false)
/-- One walk of the chosen order serves every order. -/
theorem wp_region_ord {id : Nat} {Q : Exit → Act → World → Prop} {a : Act} {w : World} {l : List Oper} (H I T : List Nat) (hm : P.follows .mixedOrders = true) (hB : ordB l.toArray H I T = true)
    (hQ : ∀ c (a : Act) d v w, Q (.panic c) (a.put d v) w → Q (.panic c) a w)
    (h : wpQuiet P l.toArray (fun w' => ∃ k, w' = w.drewN k) (fun a1 => wpIdle P l.toArray (fun a' => ∀ w', (∃ k, w' = w.drewN k) → wpList P l.toArray Q (sel l T) a' w') (sel l I) a1) (sel l H) a) : (Code.region id l.toArray true).wp P Q a w := by
  simp only [ordB, Bool.and_eq_true, decide_eq_true_eq] at hB
  obtain ⟨⟨hsel, hlen⟩, hmix⟩ := hB
  refine wp_region_any hm ?_
  have := wpAny_of_wpM _ _ _ (wpM_ordH (P := P) (C := fun w' => ∃ k, w' = w.drewN k) (md := .any) rfl hQ hsel H (Array.replicate l.toArray.size false) a (fun j oj _ hl => by rw [getD_replicate_false] at hl; cases hl) hmix h) { w with drawn := w.drawn + 1 } ⟨1, rfl⟩
  rwa [hlen] at this
end
end Go.Proofs.YtmbjealliinpdaaGreat
end

section

namespace Go.Proofs.YtmbjealliinpdaaGreat
open Go.RowKit
/-- All blocks that were there, but for those in F, are as they were. -/
structure Kept (F : Nat → Prop) (w w' : World) : Prop where
  os : w'.os = w.os
  tape : w'.tape = w.tape
  output : w'.output = w.output
  size : w.heap.size ≤ w'.heap.size
  block : ∀ k, k < w.heap.size → ¬ F k → w'.heap[k]? = w.heap[k]?
theorem Kept.refl (F : Nat → Prop) (w : World) : Kept F w w := ⟨rfl, rfl, rfl, Nat.le_refl _, fun _ _ _ => rfl⟩
theorem Kept.trans {F : Nat → Prop} {a b c : World} (h : Kept F a b) (k : Kept F b c) : Kept F a c :=
  ⟨k.os.trans h.os, k.tape.trans h.tape, k.output.trans h.output, Nat.le_trans h.size k.size,
    fun i hi hf => (k.block i (Nat.lt_of_lt_of_le hi h.size) hf).trans (h.block i hi hf)⟩
/-- What is written behind may lie in new blocks too. -/
theorem Kept.transNew {F G : Nat → Prop} {a b c : World} (h : Kept F a b) (k : Kept G b c) (hg : ∀ i, i < a.heap.size → G i → F i) : Kept F a c :=
  ⟨k.os.trans h.os, k.tape.trans h.tape, k.output.trans h.output, Nat.le_trans h.size k.size,
    fun i hi hf => (k.block i (Nat.lt_of_lt_of_le hi h.size) (fun q => hf (hg i hi q))).trans (h.block i hi hf)⟩
theorem Kept.mono {F G : Nat → Prop} {w w' : World} (h : Kept F w w') (hg : ∀ i, i < w.heap.size → F i → G i) : Kept G w w' :=
  ⟨h.os, h.tape, h.output, h.size, fun k hk hn => h.block k hk (fun q => hn (hg k hk q))⟩
theorem Kept.drewN (F : Nat → Prop) (w : World) (n : Nat) : Kept F w (w.drewN n) := ⟨rfl, rfl, rfl, Nat.le_refl _, fun _ _ _ => rfl⟩
theorem Kept.drew (F : Nat → Prop) (w : World) : Kept F w w.drew := ⟨rfl, rfl, rfl, Nat.le_refl _, fun _ _ _ => rfl⟩
theorem Kept.alloc (F : Nat → Prop) (w : World) (o : Obj) : Kept F w (w.alloc o) := ⟨rfl, rfl, rfl, by simp, fun k hk _ => Below.heap_alloc w o k hk⟩
theorem Kept.setCell {F : Nat → Prop} (w : World) (a : Addr) (u : Value) (h : F a.block) : Kept F w (w.setCell a u) :=
  ⟨rfl, rfl, rfl, by simp [World.setCell], fun k _ hn => Below.heap_setCell _ _ _ _ (fun e => hn (e ▸ h))⟩
theorem Kept.dN {F : Nat → Prop} {a w : World} (h : Kept F a w) (n : Nat) : Kept F a (w.drewN n) := h.trans (Kept.drewN _ _ _)
theorem Kept.dr {F : Nat → Prop} {a w : World} (h : Kept F a w) : Kept F a w.drew := h.trans (Kept.drew _ _)
theorem Kept.al {F : Nat → Prop} {a w : World} (h : Kept F a w) (o : Obj) : Kept F a (w.alloc o) := h.trans (Kept.alloc _ _ _)
/-- A store into a block of F, or into a new one. -/
theorem Kept.st {F : Nat → Prop} {a w : World} (h : Kept F a w) {p : Addr} (u : Value) (hp : F p.block ∨ a.heap.size ≤ p.block) : Kept F a (w.setCell p u) :=
  h.transNew (Kept.setCell (F := fun k => k = p.block) w p u rfl) (by rintro i hi rfl; rcases hp with hp | hp; exact hp; omega)
/-- What is written behind lies in F, or is new. -/
theorem Kept.thn {F G : Nat → Prop} {a b c : World} (h : Kept F a b) (k : Kept G b c) (hg : ∀ i, G i → F i ∨ a.heap.size ≤ i) : Kept F a c :=
  h.transNew k (fun i hi q => by rcases hg i q with e | e; exact e; omega)
theorem Kept.below {F : Nat → Prop} {w w' : World} {B : Nat} (h : Kept F w w') (hb : B ≤ w.heap.size) (hf : ∀ k, F k → B ≤ k) : Below B w w' :=
  ⟨h.os, h.tape, h.output, h.size, fun k hk => h.block k (by omega) (fun q => by have := hf k q; omega)⟩
theorem Kept.cell {F : Nat → Prop} {w w' : World} (h : Kept F w w') {a : Addr} (hl : a.block < w.heap.size) (hn : ¬ F a.block) : w'.cell? a = w.cell? a :=
  World.cell?_of_block (h.block _ hl hn)
theorem heap_alloc_new' (w : World) (o : Obj) : (w.alloc o).heap[w.heap.size]? = some o := by
  show (w.heap.push o)[w.heap.size]? = _
  simp
/-- Two new blocks. -/
theorem two_new (w : World) (a b : Obj) : Kept (fun _ => False) w ((w.alloc a).alloc b) ∧ ((w.alloc a).alloc b).heap[w.heap.size]? = some a ∧ ((w.alloc a).alloc b).heap[w.heap.size + 1]? = some b := by
  refine ⟨(Kept.alloc _ _ _).al _, (Below.heap_alloc _ _ _ (by simp)).trans (heap_alloc_new' w a), ?_⟩
  have := heap_alloc_new' (w.alloc a) b
  simpa using this
/-- A byte's cell. -/
def bv (b : UInt8) : Value := .int .u8 (b.toNat : Int)
/-- A slice value whose elements, of 'size' cells each, read as the cells l; g: the block in which they lie. -/
def Reads (w : World) (size : Nat) (v : Value) (n : Nat) (l : List Value) (g : Option Nat) : Prop :=
  l.length = n * size ∧ ((∃ a c, v = .slice a 0 c ∧ n = 0) ∨
    ∃ b off c, g = some b ∧ v = .slice (some ⟨b, off, none⟩) n c ∧ n ≤ c ∧ c ≤ maxLen ∧ ∀ j, j < l.length → w.cell? ⟨b, off + j, none⟩ = l[j]?)
/-- A slice value that owns its row: block g, of cells of type e, all of which may be written. -/
def Own (w : World) (e : TypeId) (size : Nat) (v : Value) (n : Nat) (l : List Value) (g : Option Nat) : Prop :=
  l.length = n * size ∧ ((g = none ∧ v = .slice none 0 0 ∧ n = 0) ∨
    ∃ b off c cur, g = some b ∧ v = .slice (some ⟨b, off, none⟩) n c ∧ n ≤ c ∧ c ≤ maxLen ∧ w.heap[b]? = some (.cells cur e (0, 0)) ∧ off + c * size ≤ cur.size ∧ ∀ j, j < l.length → cur[off + j]? = l[j]?)
theorem cell_in {w : World} {g k : Nat} {cur : Array Value} {e : TypeId} {fz : Nat × Nat} (h : w.heap[g]? = some (.cells cur e fz)) : w.cell? ⟨g, k, none⟩ = cur[k]? := by
  simp [World.cell?, h]
theorem frozen_in {w : World} {g k : Nat} {cur : Array Value} {e : TypeId} (h : w.heap[g]? = some (.cells cur e (0, 0))) : w.frozen? ⟨g, k, none⟩ = false := by
  simp [World.frozen?, h]
theorem lt_in {w : World} {g : Nat} {o : Obj} (h : w.heap[g]? = some o) : g < w.heap.size := by simpa using (Array.getElem?_eq_some_iff.1 h).1
theorem heap_setCell_same {w : World} {g o : Nat} {cur : Array Value} {e : TypeId} {fz : Nat × Nat} (h : w.heap[g]? = some (.cells cur e fz)) (u : Value) :
    (w.setCell ⟨g, o, none⟩ u).heap[g]? = some (.cells (cur.setIfInBounds o u) e fz) := by
  simp [World.setCell, Array.getElem?_modify, h]
theorem Own.reads {w : World} {e size n : Nat} {g : Option Nat} {v : Value} {l : List Value} (h : Own w e size v n l g) : Reads w size v n l g := by
  obtain ⟨h0, ⟨rfl, rfl, rfl⟩ | ⟨b, off, c, cur, rfl, rfl, h1, h2, h3, h4, h5⟩⟩ := h
  · exact ⟨h0, .inl ⟨none, 0, rfl, rfl⟩⟩
  · exact ⟨h0, .inr ⟨b, off, c, rfl, rfl, h1, h2, fun j hj => by rw [cell_in h3]; exact h5 j hj⟩⟩
theorem Own.shape {w : World} {e size n : Nat} {g : Option Nat} {v : Value} {l : List Value} (h : Own w e size v n l g) : ∃ a c, v = .slice a n c ∧ n ≤ c ∧ c ≤ maxLen := by
  obtain ⟨h0, ⟨rfl, rfl, rfl⟩ | ⟨b, off, c, cur, rfl, rfl, h1, h2, h3, h4, h5⟩⟩ := h
  · exact ⟨_, _, rfl, Nat.le_refl _, Nat.zero_le _⟩
  · exact ⟨_, _, rfl, h1, h2⟩
/-- A row that is not empty. -/
theorem Own.pos {w : World} {e size n c : Nat} {a : Option Addr} {g : Option Nat} {l : List Value} (h : Own w e size (.slice a n c) n l g) (hn : 0 < n) :
    ∃ b off cur, g = some b ∧ a = some ⟨b, off, none⟩ ∧ n ≤ c ∧ c ≤ maxLen ∧ w.heap[b]? = some (.cells cur e (0, 0)) ∧ off + c * size ≤ cur.size ∧ l.length = n * size ∧ ∀ j, j < l.length → cur[off + j]? = l[j]? := by
  obtain ⟨h0, ⟨rfl, h1, rfl⟩ | ⟨b, off, c', cur, rfl, h1, h2, h3, h4, h5, h6⟩⟩ := h
  · omega
  · simp at h1
    obtain ⟨rfl, rfl⟩ := h1
    exact ⟨b, off, cur, rfl, rfl, h2, h3, h4, h5, h0, h6⟩
theorem Own.lt {w : World} {e size n : Nat} {g : Option Nat} {v : Value} {l : List Value} (h : Own w e size v n l g) : ∀ k, g = some k → k < w.heap.size := by
  obtain ⟨h0, ⟨rfl, rfl, rfl⟩ | ⟨b, off, c, cur, rfl, rfl, h1, h2, h3, h4, h5⟩⟩ := h
  · rintro k ⟨⟩
  · rintro k ⟨⟩; exact lt_in h3
theorem Reads.shape {w : World} {size n : Nat} {g : Option Nat} {v : Value} {l : List Value} (h : Reads w size v n l g) : ∃ a c, v = .slice a n c ∧ n ≤ c := by
  obtain ⟨-, ⟨a, c, rfl, hx⟩ | ⟨b, off, c, -, rfl, h1, -⟩⟩ := h
  · rw [hx]; exact ⟨_, _, rfl, Nat.zero_le _⟩
  · exact ⟨_, _, rfl, h1⟩
theorem Reads.heap {w w' : World} {size n : Nat} {g : Option Nat} {v : Value} {l : List Value} (h : Reads w size v n l g) (hg : ∀ k, g = some k → l ≠ [] → w'.heap[k]? = w.heap[k]?) : Reads w' size v n l g := by
  obtain ⟨h0, h1 | ⟨b, off, c, rfl, rfl, h1, h2, h3⟩⟩ := h
  · exact ⟨h0, .inl h1⟩
  · refine ⟨h0, .inr ⟨b, off, c, rfl, rfl, h1, h2, fun j hj => ?_⟩⟩
    rw [World.cell?_of_block (a := ⟨b, off + j, none⟩) (hg b rfl (by intro e; subst e; simp at hj))]
    exact h3 j hj
theorem Reads.lt {w : World} {size n : Nat} {g : Option Nat} {v : Value} {l : List Value} (h : Reads w size v n l g) (hl : l ≠ []) : ∀ k, g = some k → k < w.heap.size := by
  obtain ⟨h0, ⟨a, c, rfl, rfl⟩ | ⟨b, off, c, rfl, rfl, h1, h2, h3⟩⟩ := h
  · exact absurd (List.eq_nil_of_length_eq_zero (by simpa using h0)) hl
  · rintro k ⟨⟩
    have hp : 0 < l.length := List.length_pos_iff.2 hl
    have := h3 0 hp
    rw [List.getElem?_eq_getElem hp] at this
    exact World.block_lt_of_cell? _ _ this
theorem Reads.kept {F : Nat → Prop} {w w' : World} {size n : Nat} {g : Option Nat} {v : Value} {l : List Value} (h : Reads w size v n l g) (hk : Kept F w w') (hf : ∀ k, g = some k → ¬ F k) : Reads w' size v n l g :=
  h.heap fun k hg hl => hk.block k (h.lt hl k hg) (hf k hg)
theorem Reads.drewN {w : World} {size n : Nat} {g : Option Nat} {v : Value} {l : List Value} (h : Reads w size v n l g) (m : Nat) : Reads (w.drewN m) size v n l g := h.heap fun _ _ _ => rfl
theorem Reads.drew {w : World} {size n : Nat} {g : Option Nat} {v : Value} {l : List Value} (h : Reads w size v n l g) : Reads w.drew size v n l g := h.heap fun _ _ _ => rfl
theorem Own.heap {w w' : World} {e size n : Nat} {g : Option Nat} {v : Value} {l : List Value} (h : Own w e size v n l g) (hg : ∀ k, g = some k → w'.heap[k]? = w.heap[k]?) : Own w' e size v n l g := by
  obtain ⟨h0, h1 | ⟨b, off, c, cur, rfl, rfl, h1, h2, h3, h4, h5⟩⟩ := h
  · exact ⟨h0, .inl h1⟩
  · exact ⟨h0, .inr ⟨b, off, c, cur, rfl, rfl, h1, h2, (hg b rfl).trans h3, h4, h5⟩⟩
theorem Own.kept {F : Nat → Prop} {w w' : World} {e size n : Nat} {g : Option Nat} {v : Value} {l : List Value} (h : Own w e size v n l g) (hk : Kept F w w') (hf : ∀ k, g = some k → ¬ F k) : Own w' e size v n l g :=
  h.heap fun k hg => hk.block k (h.lt k hg) (hf k hg)
theorem Own.drewN {w : World} {e size n : Nat} {g : Option Nat} {v : Value} {l : List Value} (h : Own w e size v n l g) (m : Nat) : Own (w.drewN m) e size v n l g := h.heap fun _ _ => rfl
theorem Own.drew {w : World} {e size n : Nat} {g : Option Nat} {v : Value} {l : List Value} (h : Own w e size v n l g) : Own w.drew e size v n l g := h.heap fun _ _ => rfl
theorem Own.nil (w : World) (e size : Nat) : Own w e size (.slice none 0 0) 0 [] none := ⟨by simp, .inl ⟨rfl, rfl, rfl⟩⟩
/-- A row lies apart from a block of another type. -/
theorem Own.ne {w : World} {e e' size n p : Nat} {g : Option Nat} {v : Value} {l : List Value} {cs : Array Value} {fz : Nat × Nat} (h : Own w e size v n l g) (hp : w.heap[p]? = some (.cells cs e' fz)) (he : e ≠ e') : ∀ k, g = some k → k ≠ p := by
  obtain ⟨h0, ⟨rfl, rfl, rfl⟩ | ⟨b, off, c, cur, rfl, rfl, h1, h2, h3, h4, h5⟩⟩ := h
  · rintro k ⟨⟩
  · rintro k ⟨⟩ rfl
    rw [h3] at hp
    simp at hp
    exact he hp.2.1
theorem addr_add (b off k : Nat) : (⟨b, off, none⟩ : Addr).add k = ⟨b, off + k, none⟩ := by unfold Addr.add; split <;> simp_all
/-- A part of a row. -/
theorem Reads.sliced {w : World} {size n c : Nat} {a : Option Addr} {g : Option Nat} {l : List Value} (h : Reads w size (.slice a n c) n l g) {lo hi m : Nat} (h1 : lo ≤ hi) (h2 : hi ≤ n) (h3 : hi ≤ m) (h4 : m ≤ c) :
    Reads w size (Go.sliced a lo hi m size) (hi - lo) ((l.drop (lo * size)).take ((hi - lo) * size)) g := by
  obtain ⟨h0, ⟨a', c', e, rfl⟩ | ⟨b, off, c', rfl, e, h5, h6, h7⟩⟩ := h
  · obtain rfl : hi = 0 := by omega
    obtain rfl : lo = 0 := by omega
    exact ⟨by simp, .inl ⟨_, _, rfl, by omega⟩⟩
  · simp at e
    obtain ⟨rfl, rfl⟩ := e
    have hmul : (hi - lo) * size = hi * size - lo * size := Nat.sub_mul _ _ _
    have hmul2 : hi * size ≤ n * size := Nat.mul_le_mul_right _ h2
    have hmul3 : lo * size ≤ hi * size := Nat.mul_le_mul_right _ h1
    refine ⟨by rw [List.length_take, List.length_drop]; omega, .inr ?_⟩
    by_cases hm : m = lo
    · subst hm
      obtain rfl : hi = m := by omega
      refine ⟨b, off, 0, rfl, by simp [Go.sliced], by omega, by omega, fun j hj => ?_⟩
      simp at hj
    · refine ⟨b, off + lo * size, m - lo, rfl, by simp [Go.sliced, hm, addr_add], by omega, by omega, fun j hj => ?_⟩
      rw [List.length_take, List.length_drop] at hj
      rw [List.getElem?_take, if_pos (by omega), List.getElem?_drop, ← h7 _ (by omega), Nat.add_assoc]
theorem Own.sliced {w : World} {e size n c : Nat} {a : Option Addr} {g : Option Nat} {l : List Value} (h : Own w e size (.slice a n c) n l g) {lo hi m : Nat} (h1 : lo ≤ hi) (h2 : hi ≤ n) (h3 : hi ≤ m) (h4 : m ≤ c) :
    Own w e size (Go.sliced a lo hi m size) (hi - lo) ((l.drop (lo * size)).take ((hi - lo) * size)) g := by
  obtain ⟨h0, ⟨rfl, e, rfl⟩ | ⟨b, off, c', cur, rfl, e, h5, h6, h7, h8, h9⟩⟩ := h
  · simp at e
    obtain ⟨rfl, rfl⟩ := e
    obtain rfl : hi = 0 := by omega
    obtain rfl : lo = 0 := by omega
    obtain rfl : m = 0 := by omega
    exact ⟨by simp, .inl ⟨rfl, by simp [Go.sliced], by omega⟩⟩
  · simp at e
    obtain ⟨rfl, rfl⟩ := e
    have hmul : (hi - lo) * size = hi * size - lo * size := Nat.sub_mul _ _ _
    have hmul2 : hi * size ≤ n * size := Nat.mul_le_mul_right _ h2
    have hmul3 : lo * size ≤ hi * size := Nat.mul_le_mul_right _ h1
    have hmul4 : (m - lo) * size = m * size - lo * size := Nat.sub_mul _ _ _
    have hmul5 : m * size ≤ c * size := Nat.mul_le_mul_right _ h4
    have hmul6 : lo * size ≤ m * size := Nat.mul_le_mul_right _ (by omega)
    refine ⟨by rw [List.length_take, List.length_drop]; omega, .inr ?_⟩
    by_cases hm : m = lo
    · subst hm
      obtain rfl : hi = m := by omega
      refine ⟨b, off, 0, cur, rfl, by simp [Go.sliced], by omega, by omega, h7, by omega, fun j hj => ?_⟩
      simp at hj
    · refine ⟨b, off + lo * size, m - lo, cur, rfl, by simp [Go.sliced, hm, addr_add], by omega, by omega, h7, by omega, fun j hj => ?_⟩
      rw [List.length_take, List.length_drop] at hj
      rw [List.getElem?_take, if_pos (by omega), List.getElem?_drop, ← h9 _ (by omega), Nat.add_assoc]
theorem bv_one (l : List UInt8) : ∀ u ∈ l.map bv, u.oneCell' = true := by
  intro u hu
  obtain ⟨_, _, rfl⟩ := List.mem_map.1 hu
  rfl
theorem heap_setCells {g : Nat} {e : TypeId} {fz : Nat × Nat} : ∀ (vs : List Value) (o : Nat) (w : World) (cur : Array Value), w.heap[g]? = some (.cells cur e fz) → o + vs.length ≤ cur.size →
    ∃ cur', (w.setCells g o vs).heap[g]? = some (.cells cur' e fz) ∧ cur'.size = cur.size ∧ ∀ k, cur'[k]? = if o ≤ k ∧ k < o + vs.length then vs[k - o]? else cur[k]?
  | [], o, w, cur, h, _ => ⟨cur, h, rfl, fun k => by rw [if_neg (by simp)]⟩
  | v :: r, o, w, cur, h, hl => by
    have h1 : (w.setCell ⟨g, o, none⟩ v).heap[g]? = some (.cells (cur.setIfInBounds o v) e fz) := by
      simp [World.setCell, Array.getElem?_modify, h]
    simp only [List.length_cons] at hl
    obtain ⟨cur', h2, h3, h4⟩ := heap_setCells r (o + 1) _ _ h1 (by simp; omega)
    refine ⟨cur', h2, by simpa using h3, fun k => ?_⟩
    rw [h4 k]
    simp only [List.length_cons]
    by_cases hk : k = o
    · subst hk
      rw [if_neg (by omega), if_pos (by omega)]
      simp [Array.getElem?_setIfInBounds]
      omega
    · by_cases hk2 : o + 1 ≤ k ∧ k < o + 1 + r.length
      · rw [if_pos hk2, if_pos (by omega), show k - o = (k - (o + 1)) + 1 by omega, List.getElem?_cons_succ]
      · rw [if_neg hk2, if_neg (by omega), Array.getElem?_setIfInBounds, if_neg (by omega)]
theorem size_setCells' (b : Nat) : ∀ (vs : List Value) (o : Nat) (w : World), (w.setCells b o vs).heap.size = w.heap.size
  | [], _, _ => rfl
  | v :: r, o, w => by rw [World.setCells, size_setCells' b r]; simp [World.setCell]
theorem tape_setCells' (b : Nat) : ∀ (vs : List Value) (o : Nat) (w : World), (w.setCells b o vs).tape = w.tape
  | [], _, _ => rfl
  | v :: r, o, w => by rw [World.setCells, tape_setCells' b r]; rfl
theorem other_setCells' (b : Nat) : ∀ (vs : List Value) (o : Nat) (w : World) (k : Nat), k ≠ b → (w.setCells b o vs).heap[k]? = w.heap[k]?
  | [], _, _, _, _ => rfl
  | v :: r, o, w, k, hk => by rw [World.setCells, other_setCells' b r _ _ _ hk]; exact Below.heap_setCell _ _ _ _ hk
theorem os_setCells' (b : Nat) : ∀ (vs : List Value) (o : Nat) (w : World), (w.setCells b o vs).os = w.os ∧ (w.setCells b o vs).output = w.output
  | [], _, _ => ⟨rfl, rfl⟩
  | v :: r, o, w => by rw [World.setCells]; exact os_setCells' b r _ _
theorem Kept.setCells {F : Nat → Prop} (w : World) (b o : Nat) (vs : List Value) (h : F b) : Kept F w (w.setCells b o vs) :=
  ⟨(os_setCells' b vs o w).1, tape_setCells' b vs o w, (os_setCells' b vs o w).2, by rw [size_setCells']; exact Nat.le_refl _,
    fun k _ hn => other_setCells' b vs o w k (fun e => hn (e ▸ h))⟩
section
variable {P : Program}
theorem Reads.sliceTo_run {w : World} {t e size n c : Nat} {a : Option Addr} {g : Option Nat} {l : List Value} (h : Reads w size (.slice a n c) n l g) (ht : P.underlying t = some (.slice e)) (he : (P.info? e).map (·.size) = some size) (hc : n ≤ c) {hi : Int} {k : Nat} (h1 : hi = k) (h2 : hi ≤ n) :
    ∃ a' c', (∀ w', (Instr.sliceAt t (.slice a n c) none (some (.int .i64 hi)) none).run P w' = .ok (.slice a' k c') w') ∧ Reads w size (.slice a' k c') k (l.take (k * size)) g := by
  obtain ⟨i, hi0, his⟩ : ∃ i, P.info? e = some i ∧ i.size = size := by
    cases hq : P.info? e with
    | none => simp [hq] at he
    | some i => exact ⟨i, rfl, by simpa [hq] using he⟩
  have := h.sliced (lo := 0) (hi := k) (m := c) (by omega) (by omega) (by omega) (Nat.le_refl _)
  simp only [Nat.zero_mul, List.drop_zero, Nat.sub_zero] at this
  refine ⟨_, _, fun w' => ?_, this⟩
  have e1 : hi.toNat = k := by omega
  have e3 : hi ≤ (c : Int) := by omega
  simp [Instr.sliceAt, Instr.slice, run_underlying ht, Instr.sliceBounds, run_sliceBound, sizeOf, typeInfo, hi0, his, e3, e1, (by omega : 0 ≤ hi)]
theorem Reads.sliceFrom_run {w : World} {t e size n c : Nat} {a : Option Addr} {g : Option Nat} {l : List Value} (h : Reads w size (.slice a n c) n l g) (ht : P.underlying t = some (.slice e)) (he : (P.info? e).map (·.size) = some size) (hc : n ≤ c) {lo : Int} (h0 : 0 ≤ lo) (h1 : lo ≤ n) :
    ∃ a' c', (∀ w', (Instr.sliceAt t (.slice a n c) (some (.int .i64 lo)) none none).run P w' = .ok (.slice a' (n - lo.toNat) c') w') ∧ Reads w size (.slice a' (n - lo.toNat) c') (n - lo.toNat) (l.drop (lo.toNat * size)) g := by
  obtain ⟨i, hi0, his⟩ : ∃ i, P.info? e = some i ∧ i.size = size := by
    cases hq : P.info? e with
    | none => simp [hq] at he
    | some i => exact ⟨i, rfl, by simpa [hq] using he⟩
  have := h.sliced (lo := lo.toNat) (hi := n) (m := c) (by omega) (by omega) (by omega) (Nat.le_refl _)
  have hl : l.length = n * size := h.1
  rw [List.take_of_length_le (by rw [List.length_drop, hl, Nat.sub_mul]; exact Nat.le_refl _)] at this
  refine ⟨_, _, fun w' => ?_, this⟩
  simp [Instr.sliceAt, Instr.slice, run_underlying ht, Instr.sliceBounds, run_sliceBound, sizeOf, typeInfo, hi0, his, h0, h1]
theorem Reads.src {w : World} {size n : Nat} {g : Option Nat} {v : Value} {l : List Value} (h : Reads w size v n l g) {tx e' : TypeId} (hk : P.underlying tx = some (.slice e')) (h1 : ∀ u ∈ l, u.oneCell' = true) : Src P size tx v n l w := by
  obtain ⟨h0, ⟨a, c, rfl, rfl⟩ | ⟨b, off, c, rfl, rfl, h2, h3, h4⟩⟩ := h
  · obtain rfl : l = [] := List.eq_nil_of_length_eq_zero (by simpa using h0)
    cases a with
    | none => exact Src.ofNil w hk c
    | some a => exact Src.ofSlice w hk a 0 c [] (by simp) (fun j u hu => by simp at hu) h1
  · refine Src.ofSlice w hk _ n c l h0 (fun j u hu => ?_) h1
    have hj : j < l.length := (List.getElem?_eq_some_iff.1 hu).1
    have hadd : (⟨b, off, none⟩ : Addr).add j = ⟨b, off + j, none⟩ := by unfold Addr.add; split <;> simp_all
    rw [hadd, h4 j hj, hu]
theorem foldl_push_bytes : ∀ (l : List UInt8) (s : ByteArray), (l.map fun b => (b.toNat : Int)).foldl (fun r n => r.push (UInt8.ofNat n.toNat)) s = ⟨s.data ++ l.toArray⟩
  | [], s => by simp
  | b :: r, s => by
    simp only [List.map_cons, List.foldl_cons]
    rw [foldl_push_bytes r]
    have : UInt8.ofNat ((b.toNat : Int)).toNat = b := by simp
    rw [this]
    congr 1
    simp [ByteArray.push]
/-- 'string(b)'. -/
theorem Reads.string_run {w : World} {src dst e n : Nat} {v : Value} {g : Option Nat} {bs : List UInt8} (h : Reads w 1 v n (bs.map bv) g) (hs : P.underlying src = some (.slice e)) (he : P.underlying e = some (.int .u8)) (hd : P.underlying dst = some .string) :
    (convert src dst v).run P w = .ok (.string ⟨bs.toArray⟩) w := by
  obtain ⟨h0, ⟨a, c, rfl, rfl⟩ | ⟨b, off, c, rfl, rfl, h2, h3, h4⟩⟩ := h
  · obtain rfl : bs = [] := List.eq_nil_of_length_eq_zero (by simpa using h0)
    rw [run_convert_bytes_string w src dst e a 0 c hs he hd]
    cases a with
    | none => simp [Conv.bytesToString, ByteArray.empty, ByteArray.emptyWithCapacity]; rfl
    | some a =>
      have hl := run_firstCells_some (P := P) w 1 0 a 0 c [] (by simp) (fun j u hu => by simp at hu)
      simp only [Builtin.firstCells, Nat.mul_one] at hl
      rw [run_bytesToString w _ _ _ [] (by simpa using hl)]
      rfl
  · have hn : n = bs.length := by simpa using h0.symm
    subst hn
    rw [run_convert_bytes_string w src dst e _ _ c hs he hd]
    have hm : bs.map bv = (bs.map fun b => (b.toNat : Int)).map (Value.int .u8) := by simp [bv, Function.comp_def]
    have hl := run_firstCells_some (P := P) w 1 bs.length ⟨b, off, none⟩ bs.length c (bs.map bv) (by simp) (fun j u hu => by
      have hj : j < (bs.map bv).length := (List.getElem?_eq_some_iff.1 hu).1
      rw [addr_add, h4 j hj, hu])
    simp only [Builtin.firstCells, Nat.mul_one] at hl
    rw [hm] at hl
    rw [run_bytesToString w _ _ _ _ hl, foldl_push_bytes]
    simp [ByteArray.empty, ByteArray.emptyWithCapacity]
    rfl
/-- 'append(s, x...)', s a row of the call's own. -/
theorem run_append_Own {w : World} (t tx ty e : TypeId) (i : TypeInfo) (z : Value) (size bytes : Nat) (ht : P.underlying t = some (.slice e)) (hi : P.info? e = some i) (hz : i.zero = some z)
    (hsize : i.size = size) (hby : i.bytes = bytes) (hzs : z.cells.size = size) {v : Value} {n : Nat} {l : List Value} {g : Option Nat} (hown : Own w e size v n l g)
    {x : Value} {m : Nat} {news : List Value} (hs : Src P size tx x m news w) (h63 : n + m ≤ maxLen) (hbytes : (n + m) * bytes ≤ 140737488355328) :
    ∃ v' w' g', (Builtin.append_ #[t, tx] ty #[v, x]).run P w = .ok v' w' ∧ Own w' e size v' (n + m) (l ++ news) g' ∧ Kept (fun k => g = some k) w w' ∧ (∀ k, g' = some k → g = some k ∨ w.heap.size ≤ k) := by
  subst hsize
  subst hby
  have hnl := hs.newsLen
  have hsmall : n + m ≤ 9223372036854775807 := by simp only [maxLen] at h63; omega
  obtain ⟨h0, h⟩ := hown
  have hlen : (l ++ news).length = (n + m) * i.size := by rw [List.length_append, h0, hnl, Nat.add_mul]
  have grow : ∀ (base : Option Addr) (c : Nat), v = .slice base n c → c < n + m → (Builtin.firstCells i.size n (.slice base n c)).run P w.drew = .ok l.toArray w.drew →
      ∃ v' w' g', (Builtin.append_ #[t, tx] ty #[v, x]).run P w = .ok v' w' ∧ Own w' e i.size v' (n + m) (l ++ news) g' ∧ Kept (fun k => g = some k) w w' ∧ (∀ k, g' = some k → g = some k ∨ w.heap.size ≤ k) := by
    rintro base c rfl hc hold
    have hge := grownCap_ge w (n + m) c e
    have hcm : grownCap w (n + m) c e ≤ maxLen := grownCap_le_maxLen w (n + m) c e h63
    refine ⟨_, _, some w.heap.size, run_append_grow_src (P := P) w t tx ty e i z ht hi hz base n c l hold x m news hs hc (by omega) (growslice_fits hc hbytes),
      ⟨hlen, .inr ⟨w.heap.size, 0, _, _, rfl, rfl, hge, hcm, heap_alloc_new w.drew _, ?_, fun j hj => ?_⟩⟩, (Kept.drew _ w).trans (Kept.alloc _ _ _), (by rintro k ⟨⟩; exact .inr (Nat.le_refl _))⟩
    · simp only [Array.size_append, List.size_toArray, size_zeroCells, hzs, hlen, ← Nat.add_mul, Nat.zero_add]
      exact Nat.mul_le_mul_right _ (by omega)
    · rw [Nat.zero_add, Array.getElem?_append_left (by simpa using hj), List.getElem?_toArray]
  rcases h with ⟨rfl, rfl, rfl⟩ | ⟨b, off, c, cur, rfl, rfl, h1, h2, h3, h4, h5⟩
  · obtain rfl : l = [] := List.eq_nil_of_length_eq_zero (by simpa using h0)
    by_cases hm : m = 0
    · subst hm
      obtain rfl : news = [] := List.eq_nil_of_length_eq_zero (by simpa using hnl)
      refine ⟨.slice none 0 0, w, none, ?_, ⟨by simp, .inl ⟨rfl, rfl, rfl⟩⟩, Kept.refl _ _, (by rintro k ⟨⟩)⟩
      rcases hs.kind with ⟨e', hk⟩ | hk <;> simp [Builtin.append_, run_underlying ht, run_underlying hk, sizeOf, typeInfo, hi, hs.len, hs.cells]
    · exact grow none 0 rfl (by omega) (by simpa using run_firstCells_none (P := P) w.drew i.size 0 0 0)
  · by_cases hroom : n + m ≤ c
    · have hsz : (n + m) * i.size ≤ c * i.size := Nat.mul_le_mul_right _ hroom
      rw [Nat.add_mul] at hsz
      have hfit : off + n * i.size + news.length ≤ cur.size := by rw [hnl]; omega
      obtain ⟨cur', c1, c2, c3⟩ := heap_setCells news (off + n * i.size) w cur h3 hfit
      refine ⟨_, _, some b, run_append_room_src (P := P) w t tx ty e i ht hi b off n c x m news hs hroom (fun j hj => ?_) (fun j _ => frozen_in h3),
        ⟨hlen, .inr ⟨b, off, c, cur', rfl, rfl, hroom, h2, c1, by omega, fun j hj => ?_⟩⟩, Kept.setCells _ _ _ _ rfl, fun k hk => .inl hk⟩
      · rw [cell_in h3, Array.getElem?_eq_getElem (by omega)]; rfl
      · rw [c3]
        rw [List.length_append] at hj
        by_cases hjl : j < l.length
        · rw [if_neg (by omega), List.getElem?_append_left hjl]
          exact h5 j hjl
        · rw [if_pos (by omega), List.getElem?_append_right (by omega), h0]
          congr 1
          omega
    · refine grow _ c rfl (by omega) (run_firstCells_some (P := P) w.drew i.size n ⟨b, off, none⟩ n c l h0 (fun j u hu => ?_))
      have hj : j < l.length := (List.getElem?_eq_some_iff.1 hu).1
      have hadd : (⟨b, off, none⟩ : Addr).add j = ⟨b, off + j, none⟩ := by unfold Addr.add; split <;> simp_all
      rw [hadd, World.cell?_drew, cell_in h3, h5 j hj, hu]
theorem wpList_append_Own {w : World} {ops : Array Oper} {rest : List Oper} {o : Oper} {a : Act} {Q : Exit → Act → World → Prop} (hgd : o.guard = none) (s x : Operand) (t tx : TypeId)
    (ho : o.op = .call { callee := .builtin .append, args := #[s, x], argTypes := #[t, tx] })
    (e : TypeId) (i : TypeInfo) (z : Value) (size bytes : Nat) (ht : P.underlying t = some (.slice e)) (hi : P.info? e = some i) (hz : i.zero = some z)
    (hsize : i.size = size) (hby : i.bytes = bytes) (hzs : z.cells.size = size) {v : Value} {n : Nat} {l : List Value} {g : Option Nat} (hv : a.eval s = v) (hown : Own w e size v n l g)
    {y : Value} {m : Nat} {news : List Value} (hy : a.eval x = y) (hs : Src P size tx y m news w) (h63 : n + m ≤ maxLen) (hbytes : (n + m) * bytes ≤ 140737488355328)
    (h : ∀ a' c' w' g', Own w' e size (.slice a' (n + m) c') (n + m) (l ++ news) g' → Kept (fun k => g = some k) w w' → (∀ k, g' = some k → g = some k ∨ w.heap.size ≤ k) → wpList P ops Q rest (a.put o.dst (.slice a' (n + m) c')) w') : wpList P ops Q (o :: rest) a w := by
  obtain ⟨v', w', g', hr, h2, h3, h4⟩ := run_append_Own (P := P) t tx o.type e i z size bytes ht hi hz hsize hby hzs hown hs h63 hbytes
  obtain ⟨a', c', rfl, -, -⟩ := h2.shape
  refine wpList_plain hgd fun _ hK => ?_
  unfold Oper.wp execOp
  simp only [ho, resolve, invoke, builtin, Sem.run_bind, Sem.run_pure, Result.andThen_ok, List.map_toArray, List.map_cons, List.map_nil, hv, hy, hr]
  exact hK _ _ (h _ _ w' g' h2 h3 h4)
end
end Go.Proofs.YtmbjealliinpdaaGreat
end

section

namespace Go.Proofs.YtmbjealliinpdaaGreat
open Go.RowKit
theorem once_disable (w : World) : (callFunc 160 #[]).run Tryz.prog w = .ok (.value (.tuple #[])) w := run_call_mark0 Tryz.func160 (by kernel_rfl) (by kernel_rfl) (by kernel_rfl) .disable (by kernel_rfl) w
theorem once_enable (w : World) : (callFunc 162 #[]).run Tryz.prog w = .ok (.value (.tuple #[])) w := run_call_mark0 Tryz.func162 (by kernel_rfl) (by kernel_rfl) (by kernel_rfl) .enable (by kernel_rfl) w
theorem once_acquire (a : Addr) (w : World) : (callFunc 163 #[.pointer (some a)]).run Tryz.prog w = .ok (.value (.tuple #[])) w := run_call_marked Tryz.func163 (by kernel_rfl) (by kernel_rfl) (by kernel_rfl) .acquire (by kernel_rfl) a w
theorem once_releaseMerge (a : Addr) (w : World) : (callFunc 165 #[.pointer (some a)]).run Tryz.prog w = .ok (.value (.tuple #[])) w := run_call_marked Tryz.func165 (by kernel_rfl) (by kernel_rfl) (by kernel_rfl) .releaseMerge (by kernel_rfl) a w
/-- '(*sync/atomic.Bool).Store(true)', as a deferred call: the cell holds 1. -/
theorem store_deferred (a : Addr) (x : Value) (u : FrameMode) (w : World) (hc : w.cell? a = some x) (hz : w.frozen? a = false) :
    CallsD Tryz.prog 155 #[.pointer (some a), .bool true] u w fun e u' w' => u' = u ∧ (e = .returned (.tuple #[]) ∧ w' = w.drew.setCell a (.int .u32 1)) := by
  have hc' : w.drew.cell? a = some x := by go_simp
  have hz' : w.drew.frozen? a = false := by go_simp
  have hst := run_call_store (P := Tryz.prog) Tryz.func158 (by kernel_rfl) (by kernel_rfl) (by kernel_rfl) (by kernel_rfl) (k := .u32) (y := 1) hc' hz'
  go_enter_d Tryz.func155, Tryz.ntmps155
  go_wp2
  go_region_calls
  all_goals (go_end0; exact ⟨rfl, rfl⟩)
/-- '(*sync.Mutex).Unlock', as a deferred call, the lock held and nobody waiting. -/
theorem unlock_deferred (a : Addr) (u : FrameMode) (w : World) (hc : w.cell? a = some (.int .i32 1)) (hz : w.frozen? a = false) :
    CallsD Tryz.prog 154 #[.pointer (some a)] u w fun e u' w' => u' = u ∧ (e = .returned (.tuple #[]) ∧ w' = w.setCell a (.int .i32 0)) := by
  have hd := once_disable
  have he := once_enable
  have hr := once_releaseMerge
  have hadd := run_call_add (P := Tryz.prog) Tryz.func166 (by kernel_rfl) (by kernel_rfl) (by kernel_rfl) .i32 (by kernel_rfl) (y := -1) (s := 0) hc hz (by simp [go_sem]; rfl)
  have hcv := run_convert_to_unsafe (P := Tryz.prog) (src := 303) (dst := 307) Tryz.underlying303 Tryz.underlying307 (by kernel_rfl) hc
  go_enter_d Tryz.func154, Tryz.ntmps154
  go_wp2
  go_end0
  go_wp2
  try (go_end0; exact ⟨rfl, rfl⟩)
/-- '(*sync.Mutex).Lock', the lock free. -/
theorem lock_free (a : Addr) (w : World) (hc : w.cell? a = some (.int .i32 0)) (hz : w.frozen? a = false) :
    Calls Tryz.prog 153 #[.pointer (some a)] w fun e w' => e = .returned (.tuple #[]) ∧ w' = w.setCell a (.int .i32 1) := by
  have hd := once_disable
  have he := once_enable
  have ha := once_acquire
  have hcas := run_call_cas_hit (P := Tryz.prog) Tryz.func161 (by kernel_rfl) (by kernel_rfl) (by kernel_rfl) .i32 (by kernel_rfl) (y := 1) hc hz
  have hc' : (w.setCell a (.int .i32 1)).cell? a = some (.int .i32 1) := World.cell?_setCell_same w a _ hc
  have hcv := run_convert_to_unsafe (P := Tryz.prog) (src := 303) (dst := 307) Tryz.underlying303 Tryz.underlying307 (by kernel_rfl) hc'
  go_enter Tryz.func153, Tryz.ntmps153
  go_wp2
  first | go_end0 | (simp only [Exit.inBlock, Exit.then]; refine bodyPost_ret (results_none rfl _ _ _) rfl ?_) | refine bodyPost_ret (results_none rfl _ _ _) rfl ?_
  go_wp2
  try (go_end0; exact ⟨rfl, rfl⟩)
/-- '(*sync/atomic.Int64).Add'. -/
theorem add64_c (a : Addr) (x y s : Int) (w : World) (hc : w.cell? a = some (.int .i64 x)) (hz : w.frozen? a = false) (hs : (IntKind.i64.wrap (x + y)) = s) :
    Calls Tryz.prog 146 #[.pointer (some a), .int .i64 y] w fun e w' => e = .returned (.int .i64 s) ∧ w' = w.setCell a (.int .i64 s) := by
  have hadd := run_call_add (P := Tryz.prog) Tryz.func149 (by kernel_rfl) (by kernel_rfl) (by kernel_rfl) .i64 (by kernel_rfl) (y := y) (s := s) hc hz (by first | (simp [go_sem]; exact hs) | (simp [go_sem, hs]) | exact hs)
  go_enter Tryz.func146, Tryz.ntmps146
  go_wp2
  go_ret
  exact ⟨rfl, rfl⟩
end Go.Proofs.YtmbjealliinpdaaGreat
end

section

namespace Go.Proofs.YtmbjealliinpdaaGreat
def poly : Nat := 2197175160
/-- One bit. -/
def rnd (c : Nat) : Nat := (c / 2) ^^^ (if c % 2 = 1 then poly else 0)
/-- So many bits. -/
def rnds : Nat → Nat → Nat
  | 0, c => c
  | n + 1, c => rnd (rnds n c)
def crcByte (c x : Nat) : Nat := rnds 8 (c ^^^ x)
def crcFold (c : Nat) (l : List UInt8) : Nat := l.foldl (fun c b => crcByte c b.toNat) c
/-- The checksum. -/
def crcN (l : List UInt8) : Nat := crcFold 4294967295 l ^^^ 4294967295
theorem xor_half (a b : Nat) : (a ^^^ b) / 2 = (a / 2) ^^^ (b / 2) := by
  have := Nat.xor_div_two_pow (a := a) (b := b) (n := 1)
  simpa using this
theorem xor_low (a b : Nat) : (a ^^^ b) % 2 = (a % 2) ^^^ (b % 2) := by
  have := Nat.xor_mod_two_pow (a := a) (b := b) (n := 1)
  simpa using this
theorem low_cases (a : Nat) : a % 2 = 0 ∨ a % 2 = 1 := by omega
theorem rnd_xor (a b : Nat) : rnd (a ^^^ b) = rnd a ^^^ rnd b := by
  unfold rnd
  rw [xor_half, xor_low]
  rcases low_cases a with ha | ha <;> rcases low_cases b with hb | hb <;> simp only [ha, hb]
  · simp
  · simp [Nat.xor_assoc]
  · simp only [Nat.zero_ne_one, Nat.xor_zero, if_true, if_false]
    rw [Nat.xor_assoc, Nat.xor_assoc]
    congr 1
    rw [Nat.xor_comm]
  · simp only [Nat.xor_self, Nat.zero_ne_one, if_true, if_false, Nat.xor_zero]
    rw [Nat.xor_assoc, ← Nat.xor_assoc poly, Nat.xor_comm poly, Nat.xor_assoc (b / 2), Nat.xor_self, Nat.xor_zero]
theorem rnds_xor (n a b : Nat) : rnds n (a ^^^ b) = rnds n a ^^^ rnds n b := by
  induction n with
  | zero => rfl
  | succ n ih => simp only [rnds, ih, rnd_xor]
theorem rnd_lt {c : Nat} (h : c < 4294967296) : rnd c < 4294967296 := by
  unfold rnd
  have h1 : c / 2 < 2 ^ 32 := by omega
  split
  · exact Nat.xor_lt_two_pow h1 (by decide)
  · exact Nat.xor_lt_two_pow h1 (by decide)
theorem rnds_lt {n c : Nat} (h : c < 4294967296) : rnds n c < 4294967296 := by
  induction n with
  | zero => exact h
  | succ n ih => exact rnd_lt ih
theorem rnds_shift : ∀ (n c : Nat), c % 2 ^ n = 0 → rnds n c = c / 2 ^ n
  | 0, c, _ => by simp [rnds]
  | n + 1, c, h => by
    have h2 : c % 2 ^ n = 0 := by
      have : 2 ^ n ∣ c := Nat.dvd_trans ⟨2, by rw [Nat.pow_succ]⟩ (Nat.dvd_of_mod_eq_zero h)
      exact Nat.mod_eq_zero_of_dvd this
    simp only [rnds, rnds_shift n c h2, rnd]
    obtain ⟨q, rfl⟩ := Nat.dvd_of_mod_eq_zero h
    have e : 2 ^ (n + 1) * q / 2 ^ n = 2 * q := by
      rw [Nat.pow_succ, Nat.mul_assoc, Nat.mul_div_cancel_left _ (Nat.two_pow_pos n)]
    rw [e, Nat.mul_div_cancel_left _ (Nat.two_pow_pos (n + 1))]
    simp
theorem crcByte_lt {c x : Nat} (hc : c < 4294967296) (hx : x < 256) : crcByte c x < 4294967296 :=
  rnds_lt (Nat.xor_lt_two_pow (n := 32) hc (by omega))
theorem crcFold_lt {c : Nat} (hc : c < 4294967296) (l : List UInt8) : crcFold c l < 4294967296 := by
  induction l generalizing c with
  | nil => exact hc
  | cons b r ih => exact ih (crcByte_lt hc (UInt8.toNat_lt b))
theorem crcN_lt (l : List UInt8) : crcN l < 4294967296 := Nat.xor_lt_two_pow (n := 32) (crcFold_lt (by decide) l) (by decide)
theorem split256 (c : Nat) : c = (c / 256 * 256) ^^^ (c % 256) := by
  have h1 : (c / 256 * 256) ^^^ (c % 256) = c / 256 * 256 + c % 256 := by
    have := Nat.two_pow_add_eq_or_of_lt (i := 8) (b := c % 256) (by omega) (c / 256)
    apply Nat.eq_of_testBit_eq
    intro i
    rw [show c / 256 * 256 = 2 ^ 8 * (c / 256) by omega, this, Nat.testBit_or, Nat.testBit_xor]
    by_cases hi : i < 8
    · have : (2 ^ 8 * (c / 256)).testBit i = false := by
        rw [Nat.testBit_two_pow_mul]
        simp; omega
      rw [this]; simp
    · have : (c % 256).testBit i = false := Nat.testBit_lt_two_pow (Nat.lt_of_lt_of_le (by omega : c % 256 < 2 ^ 8) (Nat.pow_le_pow_right (by omega) (by omega)))
      rw [this]; simp
  omega
/-- By table. -/
theorem byte_table (c x : Nat) : crcByte c x = (c / 256) ^^^ rnds 8 ((c % 256) ^^^ x) := by
  unfold crcByte
  conv => lhs; rw [split256 c]
  rw [Nat.xor_assoc, rnds_xor, rnds_shift 8 _ (by omega)]
  congr 1
  omega
end Go.Proofs.YtmbjealliinpdaaGreat
end

section

namespace Go.Proofs.YtmbjealliinpdaaGreat
open Go.RowKit
theorem and_one_u32 (c : Nat) (h : c < 4294967296) : bits BinOp.and IntKind.u32 (c : Int) 1 = ((c % 2 : Nat) : Int) := by
  have h1 := (bits_nat .u32 32 (by decide) (fun n h0 h1 => by rw [IntKind.wrap_u32]; omega) c 1 (by omega) (by omega)).1
  have h2 : c &&& 1 = c % 2 := Nat.and_one_is_mod c
  rw [h2] at h1
  exact h1
theorem bits_xor_nat (k : IntKind) (j : Nat) (hj : j ≤ k.bits) (hk : ∀ n : Int, 0 ≤ n → n < 2 ^ j → k.wrap n = n) (a b : Nat) (ha : a < 2 ^ j) (hb : b < 2 ^ j) :
    bits .xor k a b = ((a ^^^ b : Nat) : Int) := by
  have hp : 2 ^ j ≤ 2 ^ k.bits := Nat.pow_le_pow_right (by decide) hj
  have ha' : a % 2 ^ k.bits = a := Nat.mod_eq_of_lt (Nat.lt_of_lt_of_le ha hp)
  have hb' : b % 2 ^ k.bits = b := Nat.mod_eq_of_lt (Nat.lt_of_lt_of_le hb hp)
  have cast : ∀ n : Nat, n < 2 ^ j → ((n : Nat) : Int) < 2 ^ j := fun n h => by exact_mod_cast h
  simp only [bits, BitVec.ofInt_natCast, BitVec.toNat_xor, BitVec.toNat_ofNat, ha', hb']
  exact hk _ (Int.natCast_nonneg _) (cast _ (Nat.xor_lt_two_pow ha hb))
theorem xor_u32 (a b : Nat) (ha : a < 4294967296) (hb : b < 4294967296) : bits BinOp.xor IntKind.u32 (a : Int) (b : Int) = ((a ^^^ b : Nat) : Int) :=
  bits_xor_nat .u32 32 (by decide) (fun n h0 h1 => by rw [IntKind.wrap_u32]; omega) a b (by omega) (by omega)
theorem xor_u8 (a b : Nat) (ha : a < 256) (hb : b < 256) : bits BinOp.xor IntKind.u8 (a : Int) (b : Int) = ((a ^^^ b : Nat) : Int) :=
  bits_xor_nat .u8 8 (by decide) wraps_u8 a b (by omega) (by omega)
/-- The engine's block. -/
structure Eng (w : World) (e : Nat) (cs : Array Value) : Prop where
  heap : w.heap[e]? = some (.cells cs 290)
  size : cs.size = 260
def MakeRel (cs : Array Value) (w : World) (e : Nat) (i : Value) (w' : World) : Prop := ∃ (k : Nat) (cs' : Array Value), k ≤ 256 ∧ i = .int .i64 k ∧ w'.heap[e]? = some (.cells cs' 290) ∧ Hid (cs'.size = 260 ∧ (∀ j, j < k → cs'[3 + j]? = some (.int .u32 (rnds 8 j))) ∧ (∀ j, (j < 3 ∨ 259 ≤ j) → cs'[j]? = cs[j]?)) ∧ Kept (· = e) w w'
theorem make_c {w : World} {e : Nat} {cs : Array Value} (h : Eng w e cs) :
    Calls Tryz.prog 148 #[.pointer (some ⟨e, 0, none⟩)] w fun x w' => x = .returned (.tuple #[]) ∧ ∃ cs', Eng w' e cs' ∧ (∀ j, j < 256 → cs'[3 + j]? = some (.int .u32 (rnds 8 j))) ∧ (∀ j, (j < 3 ∨ 259 ≤ j) → cs'[j]? = cs[j]?) ∧ Kept (· = e) w w' := by
  go_enter Tryz.func148, Tryz.ntmps148
  go_wp2
  go_loopw [4] (fun i w' => MakeRel cs w e i w') (fun i _ => 256 - (intOf i).toNat)
  case atStart => exact ⟨0, cs, by omega, rfl, h.heap, Lib.hid ⟨h.size, fun j hj => by omega, fun j _ => rfl⟩, Kept.refl _ _⟩
  case round =>
    obtain ⟨k, cs', hk, rfl, hh, hcs, hkk⟩ := hrel
    by_cases hk2 : k < 256
    · have HH := Lib.hid hh
      clear hh
      have hki : (k : Int) < 256 := by omega
      rename World => wo
      go_wp2
      go_loopw [9, 3] (fun n c w' => (∃ m C : Nat, m ≤ 8 ∧ n = .int .i64 m ∧ c = .int .u32 C ∧ C < 4294967296 ∧ Hid (C = rnds m k)) ∧ w' = wo) (fun n _ _ => 8 - (intOf n).toNat)
      case atStart => exact ⟨⟨0, k, by omega, rfl, rfl, by omega, Lib.hid rfl⟩, rfl⟩
      case round =>
        obtain ⟨⟨m, C, hm, rfl, rfl, hC, hCr⟩, rfl⟩ := hrel
        by_cases hm2 : m < 8
        · have hmi : (m : Int) < 8 := by omega
          have e1 := and_one_u32 C hC
          rcases low_cases C with hl | hl
          · rw [hl] at e1
            go_wp2
            refine ⟨⟨⟨m + 1, C / 2, by omega, by simp, by simp, by omega, Lib.hid ?_⟩, trivial⟩, by simp [intOf]; omega⟩
            simp only [rnds, ← hCr.out, rnd, hl]
            simp
          · rw [hl] at e1
            have e2 := xor_u32 (C / 2) poly (by omega) (by decide)
            simp only [poly, Int.natCast_ediv, Int.cast_ofNat_Int] at e2
            go_wp2
            refine ⟨⟨⟨m + 1, (C / 2) ^^^ poly, by omega, by simp, ?_, Nat.xor_lt_two_pow (n := 32) (by omega) (by decide), Lib.hid ?_⟩, trivial⟩, by simp [intOf]; omega⟩
            · simp [poly]
            · simp only [rnds, ← hCr.out, rnd, hl]
              simp
        · obtain rfl : m = 8 := by omega
          obtain ⟨x, hx⟩ : ∃ x, cs'[3 + k]? = some x := ⟨_, Array.getElem?_eq_getElem (by have := hcs.out.1; omega)⟩
          have z0 : wr.cell? ⟨e, 3 + k, none⟩ = some x := (cell_in HH.out).trans hx
          have f0 : wr.frozen? ⟨e, 3 + k, none⟩ = false := frozen_in HH.out
          have hl := lt_in HH.out
          have HX := Lib.hid hx
          clear hx
          go_wp2
          refine ⟨⟨k + 1, cs'.setIfInBounds (3 + k) (.int .u32 C), by omega, by simp, heap_setCell_same HH.out _, Lib.hid ⟨by simp [hcs.out.1], fun j hj => ?_, fun j hj => ?_⟩, hkk.st _ (.inl rfl)⟩, by simp [intOf]; omega⟩
          · by_cases hjk : j = k
            · subst hjk
              rw [Array.getElem?_setIfInBounds_self_of_lt (by have := hcs.out.1; omega), ← hCr.out]
            · rw [Array.getElem?_setIfInBounds_ne (by omega)]
              exact hcs.out.2.1 j (by omega)
          · rw [Array.getElem?_setIfInBounds_ne (by omega)]
            exact hcs.out.2.2 j hj
    · obtain rfl : k = 256 := by omega
      have HH := Lib.hid hh
      clear hh
      go_wp2
      exact bodyPost_end (v := .tuple #[]) (by simp [results, Tryz.results148]) rfl ⟨rfl, cs', ⟨HH.out, hcs.out.1⟩, hcs.out.2.1, hcs.out.2.2, hkk⟩
/-- '(*sync.Once).doSlow' with the engine's make, not yet done. -/
theorem slow_c {w : World} {e : Nat} {cs : Array Value} (h : Eng w e cs) (h0 : cs[0]? = some (.int .u32 0)) (h1 : cs[1]? = some (.int .i32 0)) :
    Calls Tryz.prog 151 #[.pointer (some ⟨e, 0, none⟩), .func (.func 148) #[.pointer (some ⟨e, 0, none⟩)] #[]] w fun x w' => x = .returned (.tuple #[]) ∧ ∃ cs', Eng w' e cs' ∧ (∀ j, j < 256 → cs'[3 + j]? = some (.int .u32 (rnds 8 j))) ∧ cs'[259]? = cs[259]? ∧ Kept (· = e) w w' := by
  have c1 : w.cell? ⟨e, 1, none⟩ = some (.int .i32 0) := (cell_in h.heap).trans h1
  have f1 : w.frozen? ⟨e, 1, none⟩ = false := frozen_in h.heap
  have hh1 := heap_setCell_same (o := 1) h.heap (.int .i32 1)
  have E1 : Eng (w.setCell ⟨e, 1, none⟩ (.int .i32 1)) e (cs.setIfInBounds 1 (.int .i32 1)) := ⟨hh1, by simp [h.size]⟩
  have d0 : (w.setCell ⟨e, 1, none⟩ (.int .i32 1)).cell? ⟨e, 0, none⟩ = some (.int .u32 0) := by
    rw [cell_in hh1, Array.getElem?_setIfInBounds_ne (by omega), h0]
  have hl := run_call_load (P := Tryz.prog) Tryz.func152 (by kernel_rfl) (by kernel_rfl) (by kernel_rfl) .u32 (by kernel_rfl) d0
  have hnot : ∀ (x : Bool) (w : World), (Op.unary .not (.bool x)).run Tryz.prog w = .ok (.bool (!x)) w := fun _ _ => rfl
  have K1 : Kept (· = e) w (w.setCell ⟨e, 1, none⟩ (.int .i32 1)) := Kept.setCell _ _ _ rfl
  clear hh1
  go_enter_defers Tryz.func151, Tryz.ntmps151
  go_wp2_with (first
    | (go_at_call 153; refine (lock_free ⟨e, 1, none⟩ _ c1 f1).mono ?_; rintro x w' ⟨rfl, rfl⟩)
    | (go_at_call 150; go_in)
    | (go_at_call 148; refine (make_c E1).mono ?_; rintro x w2 ⟨rfl, cs2, E2, t2, o2, k2⟩))
  have a0 : w2.cell? ⟨e, 0, none⟩ = some (.int .u32 0) := by
    rw [cell_in E2.heap, o2 0 (by omega), Array.getElem?_setIfInBounds_ne (by omega), h0]
  refine leaves_cons (f := 155) (args := #[.pointer (some ⟨e, 0, none⟩), .bool true]) (by simp) (by simp [go_sem]) ?_
  refine (store_deferred ⟨e, 0, none⟩ (.int .u32 0) .returning _ a0 (frozen_in E2.heap)).mono ?_
  rintro x u' w3 ⟨rfl, rfl, rfl⟩
  have hh3 : (w2.drew.setCell ⟨e, 0, none⟩ (.int .u32 1)).heap[e]? = _ := heap_setCell_same (w := w2.drew) (o := 0) E2.heap (.int .u32 1)
  have a1 : (w2.drew.setCell ⟨e, 0, none⟩ (.int .u32 1)).cell? ⟨e, 1, none⟩ = some (.int .i32 1) := by
    rw [cell_in hh3, Array.getElem?_setIfInBounds_ne (by omega), o2 1 (by omega), Array.getElem?_setIfInBounds_self_of_lt (by rw [h.size]; omega)]
  refine leaves_cons (f := 154) (args := #[.pointer (some ⟨e, 1, none⟩)]) (by simp [settle]) (by simp [go_sem]) ?_
  refine (unlock_deferred ⟨e, 1, none⟩ _ _ a1 (frozen_in hh3)).mono ?_
  rintro x u' w4 ⟨rfl, rfl, rfl⟩
  have hh4 := heap_setCell_same (o := 1) hh3 (.int .i32 0)
  have KK : Kept (· = e) w ((w2.drew.setCell ⟨e, 0, none⟩ (.int .u32 1)).setCell ⟨e, 1, none⟩ (.int .i32 0)) := (((K1.trans k2).dr).st _ (.inl rfl)).st _ (.inl rfl)
  have key : ∃ cs', Eng ((w2.drew.setCell ⟨e, 0, none⟩ (.int .u32 1)).setCell ⟨e, 1, none⟩ (.int .i32 0)) e cs' ∧ (∀ j, j < 256 → cs'[3 + j]? = some (.int .u32 (rnds 8 j))) ∧ cs'[259]? = cs[259]? ∧ Kept (· = e) w ((w2.drew.setCell ⟨e, 0, none⟩ (.int .u32 1)).setCell ⟨e, 1, none⟩ (.int .i32 0)) := by
    refine ⟨_, ⟨hh4, by simp [E2.size]⟩, fun j hj => ?_, ?_, KK⟩
    · rw [Array.getElem?_setIfInBounds_ne (by omega), Array.getElem?_setIfInBounds_ne (by omega)]
      exact t2 j hj
    · rw [Array.getElem?_setIfInBounds_ne (by omega), Array.getElem?_setIfInBounds_ne (by omega), o2 259 (by omega), Array.getElem?_setIfInBounds_ne (by omega)]
  generalize (w2.drew.setCell ⟨e, 0, none⟩ (.int .u32 1)).setCell ⟨e, 1, none⟩ (.int .i32 0) = w5 at key ⊢
  simp only [Leaves, settle, results, Tryz.results151]
  simp
  exact key
/-- '(*sync.Once).Do', not yet done. -/
theorem do_c {w : World} {e : Nat} {cs : Array Value} (h : Eng w e cs) (h0 : cs[0]? = some (.int .u32 0)) (h1 : cs[1]? = some (.int .i32 0)) :
    Calls Tryz.prog 147 #[.pointer (some ⟨e, 0, none⟩), .func (.func 148) #[.pointer (some ⟨e, 0, none⟩)] #[]] w fun x w' => x = .returned (.tuple #[]) ∧ ∃ cs', Eng w' e cs' ∧ (∀ j, j < 256 → cs'[3 + j]? = some (.int .u32 (rnds 8 j))) ∧ cs'[259]? = cs[259]? ∧ Kept (· = e) w w' := by
  have d0 : w.cell? ⟨e, 0, none⟩ = some (.int .u32 0) := (cell_in h.heap).trans h0
  have hl := run_call_load (P := Tryz.prog) Tryz.func152 (by kernel_rfl) (by kernel_rfl) (by kernel_rfl) .u32 (by kernel_rfl) d0
  have hnot : ∀ (x : Bool) (w : World), (Op.unary .not (.bool x)).run Tryz.prog w = .ok (.bool (!x)) w := fun _ _ => rfl
  go_enter Tryz.func147, Tryz.ntmps147
  go_wp2_with (first | (go_at_call 151; refine (slow_c h h0 h1).mono ?_; rintro x w2 ⟨rfl, cs2, E2, t2, o2, k2⟩) | (go_at_call 150; go_in))
  exact bodyPost_end (v := .tuple #[]) (by simp [results, Tryz.results147]) rfl ⟨rfl, cs2, E2, t2, o2, k2⟩
end Go.Proofs.YtmbjealliinpdaaGreat
end

section

namespace Go.Proofs.YtmbjealliinpdaaGreat
open Go.RowKit
/-- A byte of a slice that is read. -/
theorem Reads.byte {w : World} {a : Option Addr} {c : Nat} {bs : List UInt8} {g : Option Nat} (h : Reads w 1 (.slice a bs.length c) bs.length (bs.map bv) g) {k : Nat} (hk : k < bs.length) :
    ∃ b off, g = some b ∧ a = some ⟨b, off, none⟩ ∧ w.cell? ⟨b, off + k, none⟩ = some (.int .u8 (bs[k].toNat : Int)) := by
  obtain ⟨h0, ⟨a', c', he, hx⟩ | ⟨b, off, c', rfl, he, h1, h2, h3⟩⟩ := h
  · omega
  · simp only [Value.slice.injEq, true_and] at he
    obtain ⟨rfl, rfl⟩ := he
    refine ⟨b, off, rfl, rfl, ?_⟩
    rw [h3 k (by simpa using hk), List.getElem?_map, List.getElem?_eq_getElem hk]
    rfl
theorem crcFold_snoc (c : Nat) (bs : List UInt8) (k : Nat) (hk : k < bs.length) : crcFold c (bs.take (k + 1)) = crcByte (crcFold c (bs.take k)) bs[k].toNat := by
  unfold crcFold
  rw [List.take_succ_eq_append_getElem hk, List.foldl_append]
  rfl
theorem crc_c2 {w : World} {e : Nat} {cs : Array Value} (h : Eng w e cs) (h0 : cs[0]? = some (.int .u32 0)) (h1 : cs[1]? = some (.int .i32 0)) (h2 : cs[259]? = some (.int .i64 0)) {v : Value} {bs : List UInt8} {g : Option Nat} (hr : Reads w 1 v bs.length (bs.map bv) g) (hg : ∀ k, g = some k → k ≠ e) (hm : bs.length ≤ 140737488351232) :
    Calls Tryz.prog 136 #[.pointer (some ⟨e, 0, none⟩), v] w fun x w' => x = .returned (.int .u32 (crcN bs)) ∧ Kept (· = e) w w' ∧ ∃ cs', Eng w' e cs' := by
  obtain ⟨a, c, rfl, hc⟩ := hr.shape
  have hmf : ∀ (fn : Fn) (first cap : Array Value) (w : World), (Instr.makeFunc fn first cap).run Tryz.prog w = .ok (.func fn first cap) w := fun _ _ _ _ => rfl
  have c9 : w.cell? ⟨e, 259, none⟩ = some (.int .i64 0) := (cell_in h.heap).trans h2
  have f9 : w.frozen? ⟨e, 259, none⟩ = false := frozen_in h.heap
  have hh := heap_setCell_same (o := 259) h.heap (.int .i64 1)
  have E1 : Eng (w.setCell ⟨e, 259, none⟩ (.int .i64 1)) e (cs.setIfInBounds 259 (.int .i64 1)) := ⟨hh, by simp [h.size]⟩
  have K1 : Kept (· = e) w (w.setCell ⟨e, 259, none⟩ (.int .i64 1)) := Kept.setCell _ _ _ rfl
  clear hh
  go_enter Tryz.func136, Tryz.ntmps136
  go_wp2_with (first
    | (go_at_call 146; refine (add64_c ⟨e, 259, none⟩ 0 1 1 _ c9 f9 (by decide)).mono ?_; rintro x w' ⟨rfl, rfl⟩)
    | (go_at_call 147; refine (do_c E1 (by rw [Array.getElem?_setIfInBounds_ne (by omega), h0]) (by rw [Array.getElem?_setIfInBounds_ne (by omega), h1])).mono ?_; rintro x w2 ⟨rfl, cs2, E2, t2, -, k2⟩))
  have K2 := K1.trans k2
  have r2 := hr.kept K2 hg
  clear E1 K1 k2 c9 f9
  go_loopw [22, 5] (fun i x w' => (∃ k C : Nat, k ≤ bs.length ∧ i = .int .i64 k ∧ x = .int .u32 C ∧ C < 4294967296 ∧ Hid (C = crcFold 4294967295 (bs.take k))) ∧ w' = w2) (fun i _ _ => bs.length - (intOf i).toNat)
  case atStart => exact ⟨⟨0, 4294967295, by omega, rfl, rfl, by omega, Lib.hid rfl⟩, rfl⟩
  case round =>
    obtain ⟨⟨k, C, hk, rfl, rfl, hC, hCr⟩, rfl⟩ := hrel
    by_cases hk2 : k < bs.length
    · have hki : (k : Int) < (bs.length : Int) := by omega
      obtain ⟨b, off, rfl, rfl, hcell⟩ := r2.byte hk2
      obtain ⟨B, hB⟩ : ∃ B : Nat, B = bs[k].toNat := ⟨_, rfl⟩
      have hBl : B < 256 := by rw [hB]; exact UInt8.toNat_lt _
      rw [← hB] at hcell
      obtain ⟨X, hX⟩ : ∃ X : Nat, X = (C % 256) ^^^ B := ⟨_, rfl⟩
      have hXl : X < 256 := by rw [hX]; exact Nat.xor_lt_two_pow (n := 8) (by omega) hBl
      obtain ⟨T, hT⟩ : ∃ T : Nat, T = rnds 8 X := ⟨_, rfl⟩
      have hTl : T < 4294967296 := by rw [hT]; exact rnds_lt (by omega)
      have z : wr.cell? ⟨e, 3 + X, none⟩ = some (.int .u32 T) := by rw [cell_in E2.heap, t2 X hXl, hT]
      have e1 := xor_u8 (C % 256) B (by omega) hBl
      have e2 := xor_u32 (C / 256) T (by omega) hTl
      simp only [Int.natCast_ediv, Int.natCast_emod, Int.cast_ofNat_Int] at e1 e2
      rw [← hX] at e1
      obtain ⟨D, hD⟩ : ∃ D : Nat, D = (C / 256) ^^^ T := ⟨_, rfl⟩
      have hDl : D < 4294967296 := by rw [hD]; exact Nat.xor_lt_two_pow (n := 32) (by omega) hTl
      rw [← hD] at e2
      have HD : Hid (D = crcFold 4294967295 (bs.take (k + 1))) := Lib.hid (by rw [crcFold_snoc _ _ _ hk2, ← hCr.out, ← hB, byte_table, hD, hT, hX])
      clear hD hT hX hB
      go_wp2
      refine ⟨⟨⟨k + 1, D, by omega, by simp, by simp, hDl, HD⟩, trivial⟩, by simp [intOf]; omega⟩
    · obtain rfl : k = bs.length := by omega
      have hsg : ¬ IntKind.u32.signed = true := by decide
      have e1 : bits BinOp.xor IntKind.u32 IntKind.u32.max (C : Int) = ((crcN bs : Nat) : Int) := by
        have h3 := xor_u32 4294967295 C (by decide) hC
        rw [Nat.xor_comm] at h3
        have h4 : crcN bs = C ^^^ 4294967295 := by rw [hCr.out, List.take_length]; rfl
        rw [h4]
        exact h3
      go_wp2
      go_ret
      exact ⟨rfl, K2, cs2, E2⟩
theorem crc_c {w : World} {e : Nat} {cs : Array Value} (h : Eng w e cs) (h0 : cs[0]? = some (.int .u32 0)) (h1 : cs[1]? = some (.int .i32 0)) (h2 : cs[259]? = some (.int .i64 0)) {v : Value} {bs : List UInt8} {g : Option Nat} (hr : Reads w 1 v bs.length (bs.map bv) g) (hg : ∀ k, g = some k → k ≠ e) (hm : bs.length ≤ 140737488351232) :
    Calls Tryz.prog 136 #[.pointer (some ⟨e, 0, none⟩), v] w fun x w' => x = .returned (.int .u32 (crcN bs)) ∧ Kept (· = e) w w' :=
  (crc_c2 h h0 h1 h2 hr hg hm).mono fun x w' ⟨a, b, _⟩ => ⟨a, b⟩
end Go.Proofs.YtmbjealliinpdaaGreat
end

section

namespace Go.Proofs.YtmbjealliinpdaaGreat
open Go.RowKit
section
variable {P : Program} {ops : Array Oper} {md : Region.Mode} {C S : World → Prop}
/-- The walk over operations that yield one value in every world that meets S. -/
def wpHeld (P : Program) (ops : Array Oper) (S : World → Prop) (Q : Act → Prop) : List Oper → Act → Prop
  | [], a => Q a
  | o :: rest, a => if Region.wanted o (yielded ops a.tmps) then ∃ v, (∀ w, S w → (execOp a.eval o).run P w = .ok (.value v) w) ∧ wpHeld P ops S Q rest (a.put o.dst v) else wpHeld P ops S Q rest (a.put o.dst undef)
theorem wpHeld_nil {Q : Act → Prop} {a : Act} (h : Q a) : wpHeld P ops S Q [] a := h
theorem wpHeld_step {Q : Act → Prop} {a : Act} {o : Oper} {rest : List Oper}
    (h : ∀ K : Act → Prop, (∀ a, wpHeld P ops S Q rest a → K a) → if Region.wanted o (yielded ops a.tmps) then ∃ v, (∀ w, S w → (execOp a.eval o).run P w = .ok (.value v) w) ∧ K (a.put o.dst v) else K (a.put o.dst undef)) : wpHeld P ops S Q (o :: rest) a :=
  h _ (fun _ h => h)
/-- The walk of the tail: S holds behind each operation. -/
def wpListS (P : Program) (ops : Array Oper) (S : World → Prop) (Q : Exit → Act → World → Prop) : List Oper → Act → World → Prop
  | [], a, w => Q .normal a w
  | o :: rest, a, w => if Region.wanted o (yielded ops a.tmps) then o.wp P a w (fun a' w' => S w' ∧ wpListS P ops S Q rest a' w') Q else S w ∧ wpListS P ops S Q rest (a.put o.dst undef) w
theorem wpListS_nil {Q : Exit → Act → World → Prop} {a : Act} {w : World} (h : Q .normal a w) : wpListS P ops S Q [] a w := h
theorem wpListS_step {Q : Exit → Act → World → Prop} {a : Act} {w : World} {o : Oper} {rest : List Oper}
    (h : ∀ K : Act → World → Prop, (∀ a w, S w → wpListS P ops S Q rest a w → K a w) → if Region.wanted o (yielded ops a.tmps) then o.wp P a w K Q else K (a.put o.dst undef) w) : wpListS P ops S Q (o :: rest) a w := by
  have := h (fun a w => S w ∧ wpListS P ops S Q rest a w) (fun _ _ h1 h2 => ⟨h1, h2⟩)
  unfold wpListS
  exact this
theorem yieldsIf_of {o : Oper} {a : Act} {Q : Act → Prop} {rest : List Oper} (h : wpHeld P ops S Q (o :: rest) a) : ∃ v, YieldsIf P ops S o v a ∧ wpHeld P ops S Q rest (a.put o.dst v) := by
  unfold wpHeld at h
  by_cases hw : Region.wanted o (yielded ops a.tmps) = true
  · simp only [hw, if_true] at h
    obtain ⟨v, h1, h2⟩ := h
    exact ⟨v, .inl ⟨hw, h1⟩, h2⟩
  · simp only [hw] at h
    exact ⟨undef, .inr ⟨by simpa using hw, rfl⟩, h⟩
theorem yieldsIn_of_yieldsIf {o : Oper} {v : Value} {a : Act} (hCS : ∀ w, C w → S w) (h : YieldsIf P ops S o v a) : YieldsIn P ops C o v a :=
  h.imp (fun ⟨hw, hv⟩ => ⟨hw, fun w hc => by unfold Oper.quietAt; rw [hv w (hCS w hc)]; exact ⟨rfl, rfl⟩⟩) id
end
end Go.Proofs.YtmbjealliinpdaaGreat
end

section

namespace Go.Proofs.YtmbjealliinpdaaGreat
open Go.RowKit
/-- Bytes as a number, the lowest first. -/
def leN : List UInt8 → Nat
  | [] => 0
  | b :: r => b.toNat + 256 * leN r
theorem leN_lt (l : List UInt8) : leN l < 256 ^ l.length := by
  induction l with
  | nil => simp [leN]
  | cons b r ih =>
    have := UInt8.toNat_lt b
    simp only [leN, List.length_cons, Nat.pow_succ]
    omega
theorem leN_snoc (l : List UInt8) (b : UInt8) : leN (l ++ [b]) = leN l + b.toNat * 256 ^ l.length := by
  induction l with
  | nil => simp [leN]
  | cons c r ih =>
    simp only [List.cons_append, leN, ih, List.length_cons, Nat.pow_succ]
    rw [Nat.mul_add, Nat.mul_comm (256 ^ r.length) 256, ← Nat.mul_assoc, ← Nat.mul_assoc, Nat.mul_comm 256 b.toNat]
    omega
theorem leN_take (bs : List UInt8) (k : Nat) (hk : k < bs.length) : leN (bs.take (k + 1)) = leN (bs.take k) + bs[k].toNat * 256 ^ k := by
  rw [List.take_succ_eq_append_getElem hk, leN_snoc, List.length_take, Nat.min_eq_left (by omega)]
theorem u8size : (Tryz.prog.info? 5).map (·.size) = some 1 := by kernel_rfl
theorem or_high (V B k : Nat) (hV : V < 256 ^ k) (hB : B < 256) (hk : k < 8) : bits BinOp.or IntKind.u64 (V : Int) (IntKind.u64.wrap ((B : Int) * 2 ^ (8 * k))) = ((V + B * 256 ^ k : Nat) : Int) := by
  have hp : (256 : Nat) ^ k = 2 ^ (8 * k) := by rw [Nat.pow_mul]
  have h8 : 256 ^ (k + 1) ≤ 256 ^ 8 := Nat.pow_le_pow_right (by decide) (by omega)
  have hBk : B * 256 ^ k + 256 ^ k ≤ 256 ^ (k + 1) := by rw [Nat.pow_succ, Nat.mul_comm (256 ^ k) 256, ← Nat.succ_mul]; exact Nat.mul_le_mul_right _ hB
  have h64 : (256 : Nat) ^ 8 = 18446744073709551616 := by decide
  have e0 : IntKind.u64.wrap ((B : Int) * 2 ^ (8 * k)) = ((B * 256 ^ k : Nat) : Int) := by
    have e : (B : Int) * 2 ^ (8 * k) = ((B * 256 ^ k : Nat) : Int) := by rw [hp]; push_cast; rfl
    rw [e]
    have : IntKind.u64.wrap ((B * 256 ^ k : Nat) : Int) = ((B * 256 ^ k : Nat) : Int) % 18446744073709551616 := by simp [IntKind.wrap, IntKind.bits, IntKind.signed]
    rw [this]
    omega
  rw [e0, (bits_nat .u64 64 (by decide) (fun n h0 h1 => by
    have : IntKind.u64.wrap n = n % 18446744073709551616 := by simp [IntKind.wrap, IntKind.bits, IntKind.signed]
    rw [this]; omega) V (B * 256 ^ k) (by omega) (by omega)).2]
  congr 1
  rw [Nat.or_comm, hp, Nat.mul_comm B, ← Nat.two_pow_add_eq_or_of_lt (by rw [← hp]; exact hV), Nat.add_comm]
theorem wordRead_c {w : World} {c : Nat} {vo vi : Value} {xs ys : List UInt8} {g : Option Nat} (v0 : Int) (h : w.heap[c]? = some (.cells #[vo, vi, .bool true] 138)) (hr : Reads w 1 vi (xs ++ ys).length ((xs ++ ys).map bv) g) (hg : ∀ k, g = some k → k ≠ c) (n : Int) (hn : n = xs.length) (hn8 : xs.length ≤ 8) (hm : (xs ++ ys).length ≤ 140737488351232) :
    Calls Tryz.prog 137 #[.pointer (some ⟨c, 0, none⟩), .int .u64 v0, .int .i64 n] w fun e w' => e = .returned (.int .u64 (leN xs)) ∧ ∃ vi', w'.heap[c]? = some (.cells #[vo, vi', .bool true] 138) ∧ Reads w' 1 vi' ys.length (ys.map bv) g ∧ Kept (· = c) w w' := by
  obtain ⟨bs, hbs⟩ : ∃ bs, bs = xs ++ ys := ⟨_, rfl⟩
  have hlen : bs.length = xs.length + ys.length := by rw [hbs, List.length_append]
  have htk : bs.take xs.length = xs := by rw [hbs, List.take_left']; rfl
  have hdr : bs.drop xs.length = ys := by rw [hbs, List.drop_left']; rfl
  rw [← hbs] at hr hm
  obtain ⟨N, hN⟩ : ∃ N : Nat, N = xs.length := ⟨_, rfl⟩
  rw [← hN] at hn hn8 hlen htk hdr
  subst hn
  have HL := Lib.hid hlen
  have hNle : N ≤ bs.length := by omega
  clear hlen
  have HT := Lib.hid htk
  have HDR := Lib.hid hdr
  clear hbs htk hdr hN
  obtain ⟨a, cp, rfl, hc⟩ := hr.shape
  have c1 : w.cell? ⟨c, 1, none⟩ = some (.slice a bs.length cp) := cell_in h
  have c2 : w.cell? ⟨c, 2, none⟩ = some (.bool true) := cell_in h
  have hl := lt_in h
  have f1 : w.frozen? ⟨c, 1, none⟩ = false := frozen_in h
  have hge : ¬ (bs.length : Int) < (N : Int) := by omega
  have HC := Lib.hid h
  clear h
  obtain ⟨a2, c2', hsl, hrd⟩ := hr.sliceFrom_run (P := Tryz.prog) (t := 22) (lo := (N : Int)) Tryz.underlying22 u8size hc (by omega) (by omega)
  have HRD := Lib.hid hrd
  clear hrd
  go_enter Tryz.func137, Tryz.ntmps137
  go_wp2
  go_loopw [44, 1] (fun i x w' => (∃ k V : Nat, k ≤ N ∧ i = .int .i64 k ∧ x = .int .u64 V ∧ V < 256 ^ k ∧ Hid (V = leN (bs.take k))) ∧ w' = w) (fun i _ _ => N - (intOf i).toNat)
  case atStart => exact ⟨⟨0, 0, by omega, rfl, rfl, by decide, Lib.hid rfl⟩, rfl⟩
  case round =>
    obtain ⟨⟨k, V, hk, rfl, rfl, hV, hVr⟩, rfl⟩ := hrel
    by_cases hk2 : k < N
    · have hki : (k : Int) < (N : Int) := by omega
      have hkl : k < bs.length := by omega
      obtain ⟨b, off, rfl, rfl, hcell⟩ := hr.byte hkl
      obtain ⟨B, hB⟩ : ∃ B : Nat, B = bs[k].toNat := ⟨_, rfl⟩
      have hBl : B < 256 := by rw [hB]; exact UInt8.toNat_lt _
      rw [← hB] at hcell
      have e1 := or_high V B k hV hBl (by omega)
      obtain ⟨U, hU⟩ : ∃ U : Nat, U = V + B * 256 ^ k := ⟨_, rfl⟩
      have hUl : U < 256 ^ (k + 1) := by
        have : B * 256 ^ k + 256 ^ k ≤ 256 ^ (k + 1) := by rw [Nat.pow_succ, Nat.mul_comm (256 ^ k) 256, ← Nat.succ_mul]; exact Nat.mul_le_mul_right _ hBl
        omega
      rw [← hU] at e1
      have HU : Hid (U = leN (bs.take (k + 1))) := Lib.hid (by rw [leN_take bs k hkl, ← hVr.out, ← hB, hU])
      clear hB hU hV
      go_wp2
      refine ⟨⟨⟨k + 1, U, by omega, by simp, by simp, hUl, HU⟩, trivial⟩, by simp [intOf]; omega⟩
    · obtain rfl : k = N := by omega
      clear hV
      obtain rfl : V = leN xs := by rw [hVr.out, HT.out]
      have e1 : bs.length - (k : Int).toNat = ys.length := by have := HL.out; omega
      have e2 : List.drop ((k : Int).toNat * 1) (bs.map bv) = ys.map bv := by rw [Nat.mul_one, ← List.map_drop, show (k : Int).toNat = k by omega, HDR.out]
      have h3 := HRD.out
      rw [e2, e1] at h3
      rw [e1] at hsl
      have H3 := Lib.hid h3
      clear HRD e1 e2 h3
      go_wp2
      go_ret
      have K1 : Kept (· = c) wr (wr.setCell ⟨c, 1, none⟩ (.slice a2 ys.length c2')) := Kept.setCell _ _ _ rfl
      exact ⟨rfl, _, heap_setCell_same (o := 1) HC.out _, H3.out.kept K1 (fun k hk => hg k hk), K1⟩
end Go.Proofs.YtmbjealliinpdaaGreat
end

section

namespace Go.Proofs.YtmbjealliinpdaaGreat
open Go.RowKit
theorem u8info : (Tryz.prog.info? 5).map (fun i => (i.zero, i.size, i.bytes)) = some (some (.int .u8 0), 1, 1) := by kernel_rfl
theorem info_all {P : Program} {t : TypeId} {z : Value} {n b : Nat} (h : (P.info? t).map (fun i => (i.zero, i.size, i.bytes)) = some (some z, n, b)) : ∃ i, P.info? t = some i ∧ i.zero = some z ∧ i.size = n ∧ i.bytes = b := by
  obtain ⟨i, h1, h2⟩ := Option.map_eq_some_iff.1 h
  simp at h2
  exact ⟨i, h1, h2.1, h2.2.1, h2.2.2⟩
theorem eng0_ex : ∃ cs : Array Value, cs.size = 260 ∧ cs[0]? = some (.int .u32 0) ∧ cs[1]? = some (.int .i32 0) ∧ cs[259]? = some (.int .i64 0) ∧ ∀ w, Sem.run Tryz.prog (zeroValue 290) w = .ok (.agg cs) w :=
  ⟨match ((Tryz.prog.info? 290).bind (fun i => i.zero)) with
  | some (.agg c) => c
  | _ => #[], by kernel_rfl, by kernel_rfl, by kernel_rfl, by kernel_rfl, fun w => by kernel_rfl⟩
/-- An engine that is new. -/
structure Eng0 (w : World) (e : Nat) : Prop where
  ex : ∃ cs, Eng w e cs ∧ cs[0]? = some (.int .u32 0) ∧ cs[1]? = some (.int .i32 0) ∧ cs[259]? = some (.int .i64 0)
theorem new_c {w : World} : Calls Tryz.prog 135 #[] w fun e w' => e = .returned (.pointer (some ⟨w.heap.size, 0, none⟩)) ∧ Eng0 w' w.heap.size ∧ Kept (fun _ => False) w w' := by
  obtain ⟨cs, hs, h0, h1, h2, z⟩ := eng0_ex
  have z1 : ¬ cs = #[] := by intro h; rw [h] at hs; cases hs
  go_enter Tryz.func135, Tryz.ntmps135
  go_wp2
  go_ret
  exact ⟨rfl, ⟨cs, ⟨heap_alloc_new' _ _, hs⟩, h0, h1, h2⟩, Kept.alloc _ _ _⟩
theorem crc0_c {w : World} {e : Nat} (h : Eng0 w e) {v : Value} {bs : List UInt8} {g : Option Nat} (hr : Reads w 1 v bs.length (bs.map bv) g) (hg : ∀ k, g = some k → k ≠ e) (hm : bs.length ≤ 140737488351232) :
    Calls Tryz.prog 136 #[.pointer (some ⟨e, 0, none⟩), v] w fun x w' => x = .returned (.int .u32 (crcN bs)) ∧ Kept (· = e) w w' := by
  obtain ⟨cs, h1, h2, h3, h4⟩ := h.ex
  exact crc_c h1 h2 h3 h4 hr hg hm
/-- How a slice of bytes that is new is handed back. -/
def Fresh (w w' : World) (v : Value) (bs : List UInt8) : Prop := ∃ g, Own w' 5 1 v bs.length (bs.map bv) g ∧ ∀ k, g = some k → w.heap.size ≤ k
theorem Fresh.nil (w w' : World) : Fresh w w' (.slice none 0 0) [] := ⟨none, Own.nil _ _ _, fun k h => by cases h⟩
end Go.Proofs.YtmbjealliinpdaaGreat
end

section

namespace Go.Proofs.YtmbjealliinpdaaGreat
open Go.RowKit
theorem take_c {w : World} {c : Nat} {vi : Value} {xs ys : List UInt8} {g : Option Nat} (h : w.heap[c]? = some (.cells #[vi, .bool false] 99)) (hr : Reads w 1 vi (xs ++ ys).length ((xs ++ ys).map bv) g) (hg : ∀ k, g = some k → k ≠ c) (n : Int) (hn : n = xs.length) (hm : (xs ++ ys).length ≤ 140737488351232) :
    Calls Tryz.prog 132 #[.pointer (some ⟨c, 0, none⟩), .int .i64 n] w fun e w' => (∃ vx, e = .returned vx ∧ Reads w' 1 vx xs.length (xs.map bv) g) ∧ ∃ vi', w'.heap[c]? = some (.cells #[vi', .bool false] 99) ∧ Reads w' 1 vi' ys.length (ys.map bv) g ∧ Kept (· = c) w w' := by
  obtain ⟨bs, hbs⟩ : ∃ bs, bs = xs ++ ys := ⟨_, rfl⟩
  have hlen : bs.length = xs.length + ys.length := by rw [hbs, List.length_append]
  have htk : bs.take xs.length = xs := by rw [hbs, List.take_left']; rfl
  have hdr : bs.drop xs.length = ys := by rw [hbs, List.drop_left']; rfl
  rw [← hbs] at hr hm
  obtain ⟨N, hN⟩ : ∃ N : Nat, N = xs.length := ⟨_, rfl⟩
  rw [← hN] at hn hlen htk hdr
  subst hn
  obtain ⟨a, cp, rfl, hc⟩ := hr.shape
  have c0 : w.cell? ⟨c, 0, none⟩ = some (.slice a bs.length cp) := cell_in h
  have c1 : w.cell? ⟨c, 1, none⟩ = some (.bool false) := cell_in h
  have hl := lt_in h
  have f0 : w.frozen? ⟨c, 0, none⟩ = false := frozen_in h
  have hge : ¬ (bs.length : Int) < (N : Int) := by omega
  have HC := Lib.hid h
  clear h
  obtain ⟨a2, cp2, hsl, hrd⟩ := hr.sliceFrom_run (P := Tryz.prog) (t := 22) (lo := (N : Int)) Tryz.underlying22 u8size hc (by omega) (by omega)
  obtain ⟨a3, cp3, hsl3, hrd3⟩ := hr.sliceTo_run (P := Tryz.prog) (t := 22) (hi := (N : Int)) (k := N) Tryz.underlying22 u8size hc rfl (by omega)
  have e1 : bs.length - (N : Int).toNat = ys.length := by omega
  have e2 : List.drop ((N : Int).toNat * 1) (bs.map bv) = ys.map bv := by rw [Nat.mul_one, ← List.map_drop, show (N : Int).toNat = N by omega, hdr]
  rw [e2, e1] at hrd
  rw [e1] at hsl
  rw [Nat.mul_one, ← List.map_take, htk] at hrd3
  have HN := Lib.hid hN
  clear hlen hbs htk hdr e1 e2 hr hN
  go_enter Tryz.func132, Tryz.ntmps132
  go_wp2
  go_ret
  have K1 : Kept (· = c) w (w.setCell ⟨c, 0, none⟩ (.slice a2 ys.length cp2)) := Kept.setCell _ _ _ rfl
  rw [← HN.out]
  exact ⟨⟨_, rfl, hrd3.kept K1 (fun k hk => hg k hk)⟩, _, heap_setCell_same (o := 0) HC.out _, hrd.kept K1 (fun k hk => hg k hk), K1⟩
theorem add_high (V B k : Nat) (hV : V < 256 ^ k) (hB : B < 256) (hk : k < 4) : IntKind.u32.wrap ((V : Int) + IntKind.u32.wrap ((B : Int) * 2 ^ (8 * k))) = ((V + B * 256 ^ k : Nat) : Int) := by
  have hp : (256 : Nat) ^ k = 2 ^ (8 * k) := by rw [Nat.pow_mul]
  have h8 : 256 ^ (k + 1) ≤ 256 ^ 4 := Nat.pow_le_pow_right (by decide) (by omega)
  have hBk : B * 256 ^ k + 256 ^ k ≤ 256 ^ (k + 1) := by rw [Nat.pow_succ, Nat.mul_comm (256 ^ k) 256, ← Nat.succ_mul]; exact Nat.mul_le_mul_right _ hB
  have h64 : (256 : Nat) ^ 4 = 4294967296 := by decide
  have e : (B : Int) * 2 ^ (8 * k) = ((B * 256 ^ k : Nat) : Int) := by rw [hp]; push_cast; rfl
  rw [e, IntKind.wrap_u32, IntKind.wrap_u32]
  omega
/-- A slice without elements that is new. -/
theorem own_none (w : World) (t : TypeId) : Own (w.alloc (Obj.cells #[] t)) t 1 (.slice (some ⟨w.heap.size, 0, none⟩) 0 0) 0 [] (some w.heap.size) :=
  ⟨by simp, .inr ⟨w.heap.size, 0, 0, #[], rfl, rfl, Nat.le_refl _, by decide, heap_alloc_new' _ _, by simp, fun j hj => by simp at hj⟩⟩
end Go.Proofs.YtmbjealliinpdaaGreat
end

section

namespace Go.Proofs.YtmbjealliinpdaaGreat
open Go.RowKit
/-- So many bytes of a number, the lowest first. -/
def leB : Nat → Nat → List UInt8
  | 0, _ => []
  | k + 1, n => UInt8.ofNat (n % 256) :: leB k (n / 256)
theorem leB_length (k n : Nat) : (leB k n).length = k := by
  induction k generalizing n with
  | zero => rfl
  | succ k ih => simp [leB, ih]
theorem leN_leB (k n : Nat) : leN (leB k n) = n % 256 ^ k := by
  induction k generalizing n with
  | zero => simp [leB, leN, Nat.mod_one]
  | succ k ih =>
    simp only [leB, leN, ih, UInt8.toNat_ofNat']
    rw [show (256 : Nat) ^ (k + 1) = 256 * 256 ^ k by rw [Nat.pow_succ, Nat.mul_comm], Nat.mod_mul]
    omega
theorem bv_ofNat (n : Nat) (h : n < 256) : bv (UInt8.ofNat n) = .int .u8 (n : Int) := by
  simp only [bv, UInt8.toNat_ofNat']
  congr 2
  omega
theorem leB4_cells (n : Nat) (hn : n < 4294967296) : (leB 4 n).map bv = [.int .u8 ((n : Int) % 256), .int .u8 ((n : Int) / 256 % 256), .int .u8 ((n : Int) / 65536 % 256), .int .u8 ((n : Int) / 16777216)] := by
  simp only [leB, List.map_cons, List.map_nil, bv_ofNat _ (Nat.mod_lt _ (by decide : 256 > 0)), Nat.div_div_eq_div_mul]
  simp
  omega
/-- A row that is new is owned. -/
theorem own_alloc (w : World) (l : List Value) (e : TypeId) (n : Nat) (h : l.length = n) (hn : n ≤ maxLen) : Own (w.alloc (.cells l.toArray e)) e 1 (.slice (some ⟨w.heap.size, 0, none⟩) n n) n l (some w.heap.size) :=
  ⟨by simpa using h, .inr ⟨w.heap.size, 0, n, l.toArray, rfl, rfl, Nat.le_refl _, hn, heap_alloc_new' w _, by simp [h], fun j hj => by simp⟩⟩
theorem number_c {w : World} (n : Nat) (hn : n < 4294967296) :
    Calls Tryz.prog 134 #[.int .u32 n] w fun e w' => (∃ v, e = .returned v ∧ Own w' 5 1 v 4 ((leB 4 n).map bv) (some w.heap.size)) ∧ Kept (fun _ => False) w w' := by
  have ho := own_alloc w ((leB 4 n).map bv) 5 4 (by rw [List.length_map, leB_length]) (by decide)
  have hk := Kept.alloc (fun _ => False) w (.cells ((leB 4 n).map bv).toArray 5)
  rw [leB4_cells n hn] at ho hk ⊢
  have HO := Lib.hid ho
  have HK := Lib.hid hk
  clear ho hk
  go_enter Tryz.func134, Tryz.ntmps134
  go_wp2
  go_ret
  exact ⟨⟨_, rfl, HO.out⟩, HK.out⟩
/-- A frame. -/
def frameB (bs : List UInt8) : List UInt8 := leB 4 bs.length ++ leB 4 (crcN bs) ++ bs
theorem frame_c {w : World} {v : Value} {bs : List UInt8} {g : Option Nat} (hr : Reads w 1 v bs.length (bs.map bv) g) (hgl : ∀ k, g = some k → k < w.heap.size) (hm : bs.length ≤ 524288) :
    Calls Tryz.prog 60 #[v] w fun e w' => (∃ vc, e = .returned vc ∧ Fresh w w' vc (frameB bs)) ∧ Kept (fun _ => False) w w' := by
  obtain ⟨i0, hi, hz0, hz1, hz2⟩ := info_all u8info
  obtain ⟨a, cp, rfl, hc⟩ := hr.shape
  have h1i : ¬ (524288 : Int) < (bs.length : Int) := by omega
  have hmod : (bs.length : Int) % 4294967296 = (bs.length : Int) := by omega
  go_enter Tryz.func60, Tryz.ntmps60
  go_wp2_with fail
  refine (number_c bs.length (by omega)).mono ?_
  rintro e w1 ⟨⟨v1, rfl, o1⟩, k1⟩
  obtain ⟨a1, c1, rfl, -, -⟩ := o1.shape
  go_wp2_with fail
  refine new_c.mono ?_
  rintro e w2 ⟨rfl, E2, k2⟩
  have r2 := hr.kept (k1.trans k2) (fun _ _ h => h)
  go_wp2_with fail
  have hs1 := k1.size
  have hlt1 := o1.lt _ rfl
  refine (crc0_c E2 r2 (fun k hk => by have := hgl k hk; omega) (by omega)).mono ?_
  rintro e w3 ⟨rfl, k3⟩
  go_wp2_with fail
  refine (number_c (crcN bs) (crcN_lt bs)).mono ?_
  rintro e w4 ⟨⟨v4, rfl, o4⟩, k4⟩
  obtain ⟨a4, c4, rfl, -, -⟩ := o4.shape
  have k14 : Kept (· = w1.heap.size) w1 w4 := ((k2.mono (fun _ _ h => h.elim)).trans k3).trans (k4.mono (fun _ _ h => h.elim))
  have o1' := o1.kept k14 (fun k hk => by simp at hk; omega)
  have K4 : Kept (fun _ => False) w w4 := k1.thn k14 (fun i hi => .inr (by omega))
  have r4 := hr.kept K4 (fun _ _ h => h)
  go_wp2_with (first
    | (at_builtin; refine wpList_append_Own rfl _ _ 22 22 rfl 5 i0 (.int .u8 0) 1 1 Tryz.underlying22 hi hz0 hz1 hz2 rfl rfl o1' rfl (by exact Reads.src o4.reads Tryz.underlying22 (bv_one _)) (by unfold maxLen; omega) (by omega) ?_; intro a5 k5 w5 g5 hown5 hk5 hg5; have r5 := hr.kept (K4.thn hk5 (fun i hi => by simp at hi; omega)) (fun _ _ h => h))
    | (at_builtin; refine wpList_append_Own rfl _ _ 22 22 rfl 5 i0 (.int .u8 0) 1 1 Tryz.underlying22 hi hz0 hz1 hz2 rfl rfl hown5 rfl (by exact Reads.src r5 Tryz.underlying22 (bv_one _)) (by unfold maxLen; omega) (by omega) ?_; intro a6 k6 w6 g6 hown6 hk6 hg6))
  have K5 : Kept (fun _ => False) w w5 := K4.thn hk5 (fun i hi => by simp at hi; omega)
  have hg5' : ∀ k, g5 = some k → w.heap.size ≤ k := fun k hk => by
    rcases hg5 k hk with h | h
    · simp at h; omega
    · have := K4.size; omega
  have K6 : Kept (fun _ => False) w w6 := K5.thn hk6 (fun i hi => .inr (hg5' i hi))
  go_ret
  refine ⟨⟨_, rfl, g6, ?_, fun k hk => ?_⟩, K6⟩
  · have e : (frameB bs).length = 4 + 4 + bs.length := by simp [frameB, leB_length]; omega
    rw [e, frameB, List.map_append, List.map_append]
    exact hown6
  · rcases hg6 k hk with h | h
    · exact hg5' k h
    · have := K5.size; omega
end Go.Proofs.YtmbjealliinpdaaGreat
end

section

namespace Go.Proofs.YtmbjealliinpdaaGreat
open Go.RowKit
section
variable {P : Program} {ops : Array Oper} {md : Region.Mode} {C S : World → Prop} {E : Nat → Bool}
/-- Whatever order is picked, and S holds behind every operation outside E. -/
def wpAnyJ (P : Program) (md : Region.Mode) (ops : Array Oper) (Q : Exit → Act → World → Prop) (S : World → Prop) (E : Nat → Bool) : Nat → Array Bool → Act → World → Prop
  | 0, listed, a, w => Region.ready md ops listed = [] ∧ Q .normal a w
  | fuel + 1, listed, a, w =>
    (Region.ready md ops listed = [] → Q .normal a w) ∧
    ∀ i ∈ Region.ready md ops listed, wpOp P ops Q i (fun a' w' => (E i = false → S w') ∧ wpAnyJ P md ops Q S E fuel (listed.setIfInBounds i true) a' w') a w
theorem wpAny_of_J {Q : Exit → Act → World → Prop} : ∀ (fuel : Nat) (listed : Array Bool) (a : Act) (w : World), wpAnyJ P md ops Q S E fuel listed a w → wpAny P md ops Q fuel listed a w
  | 0, _, _, _, h => h
  | fuel + 1, _, _, _, h => ⟨h.1, fun i hi => wpOp_mono (fun a' w' h' => wpAny_of_J fuel _ a' w' h'.2) (h.2 i hi)⟩
theorem wpAnyJ_first {Q : Exit → Act → World → Prop} {i : Nat} {oi : Oper} {v : Value} (hi : ops[i]? = some oi) (hsel : ∀ (j : Nat) (o : Oper) cs b, ops[j]? = some o → o.op ≠ .select cs b)
    (hQ : ∀ c a w, Q (.panic c) (a.put oi.dst v) w → Q (.panic c) a w) (hE : ∀ j oj, ops[j]? = some oj → E j = true → ∃ e ∈ oj.after, Region.binds md e = true ∧ e.on = i) :
    ∀ (fuel : Nat) (listed : Array Bool) (a : Act) (w : World),
      (∀ j oj, ops[j]? = some oj → j ≠ i → listed.getD j true = false → (∀ e ∈ oj.after, Region.binds md e = true → e.on ≠ i) → oi.apart ops oj = true) →
      i ∈ Region.ready md ops listed → YieldsIf P ops S oi v a → S w →
      wpAnyJ P md ops Q S E fuel (listed.setIfInBounds i true) (a.put oi.dst v) w → wpAnyJ P md ops Q S E (fuel + 1) listed a w := by
  intro fuel
  induction fuel with
  | zero =>
    intro listed a w _ hr hy hS H
    refine ⟨fun h => (by rw [h] at hr; cases hr), fun j hj => ?_⟩
    by_cases hji : j = i
    · subst hji; exact hy.wpOp hi hS ⟨fun _ => hS, H⟩
    · have := ready_mono hj hji
      rw [H.1] at this
      cases this
  | succ fuel ih =>
    intro listed a w hfree hr hy hS H
    refine ⟨fun h => (by rw [h] at hr; cases hr), fun j hj => ?_⟩
    by_cases hji : j = i
    · subst hji; exact hy.wpOp hi hS ⟨fun _ => hS, H⟩
    · have h1 := H.2 j (ready_mono hj hji)
      obtain ⟨hjun, oj, hoj, hall⟩ := mem_ready.1 hj
      have hnot := not_on (md := md) (mem_ready.1 hr).1 hall
      have hEj : E j = false := by
        cases hEj : E j with
        | false => rfl
        | true =>
          obtain ⟨e, he, hb, ho⟩ := hE j oj hoj hEj
          exact absurd ho (hnot e he hb)
      have h2 := wpOp_putIf (S := S) hoj (hfree j oj hoj hji hjun hnot) (fun cs b => hsel i oi cs b hi) (fun cs b => hsel j oj cs b hoj) hQ hy h1
      refine wpOp_mono (fun a' w' h3 => ⟨h3.2.1, ih (listed.setIfInBounds j true) a' w' (free_next hfree hjun) (ready_mono hr (Ne.symm hji)) h3.1 (h3.2.1 hEj) ?_⟩) h2
      rw [Array.setIfInBounds_comm _ _ hji]
      exact h3.2.2
/-- Whatever order is picked: the operations of T go by 'wpAnyJ'. -/
def wpMJ (P : Program) (md : Region.Mode) (ops : Array Oper) (C S : World → Prop) (E : Nat → Bool) (Q : Exit → Act → World → Prop) (T : List Nat) : Nat → Array Bool → Act → Prop
  | 0, listed, a => ∀ w, C w → wpAnyJ P md ops Q S E 0 listed a w
  | f + 1, listed, a => (Region.ready md ops listed = [] → ∀ w, C w → Q .normal a w) ∧ ∀ i ∈ Region.ready md ops listed,
      if i ∈ T then ∀ w, C w → wpOp P ops Q i (fun a' w' => (E i = false → S w') ∧ wpAnyJ P md ops Q S E f (listed.setIfInBounds i true) a' w') a w
      else qOp P ops C i (wpMJ P md ops C S E Q T f (listed.setIfInBounds i true)) a
theorem wpAnyJ_of_wpMJ {Q : Exit → Act → World → Prop} {T : List Nat} (hCS : ∀ w, C w → S w) : ∀ (f : Nat) (listed : Array Bool) (a : Act), wpMJ P md ops C S E Q T f listed a → ∀ w, C w → wpAnyJ P md ops Q S E f listed a w
  | 0, _, _, h, w, hw => h w hw
  | f + 1, listed, a, h, w, hw => by
    refine ⟨fun h0 => h.1 h0 w hw, fun i hi => ?_⟩
    have h1 := h.2 i hi
    by_cases hT : i ∈ T
    · rw [if_pos hT] at h1
      exact h1 w hw
    · rw [if_neg hT] at h1
      exact wpOp_of_qOp hw (fun a' w' hw' h' => ⟨fun _ => hCS _ hw', wpAnyJ_of_wpMJ hCS f _ a' h' w' hw'⟩) h1
theorem wpMJ_firstI {Q : Exit → Act → World → Prop} {T : List Nat} {i : Nat} {oi : Oper} {v : Value} (hCS : ∀ w, C w → S w) (hE : ∀ j oj, ops[j]? = some oj → E j = true → ∃ e ∈ oj.after, Region.binds md e = true ∧ e.on = i) (hi : ops[i]? = some oi) (hsel : ∀ (j : Nat) (o : Oper) cs b, ops[j]? = some o → o.op ≠ .select cs b)
    (hQ : ∀ c (a : Act) d v w, Q (.panic c) (a.put d v) w → Q (.panic c) a w) (hiT : i ∉ T) :
    ∀ (f : Nat) (listed : Array Bool) (a : Act),
      (∀ j oj, ops[j]? = some oj → j ≠ i → listed.getD j true = false → (∀ e ∈ oj.after, Region.binds md e = true → e.on ≠ i) → oi.apart ops oj = true) →
      i ∈ Region.ready md ops listed → YieldsIf P ops S oi v a →
      wpMJ P md ops C S E Q T f (listed.setIfInBounds i true) (a.put oi.dst v) → wpMJ P md ops C S E Q T (f + 1) listed a := by
  intro f
  induction f with
  | zero =>
    intro listed a hfree hr hy H
    refine ⟨fun h => (by rw [h] at hr; cases hr), fun j hj => ?_⟩
    by_cases hji : j = i
    · subst hji; rw [if_neg hiT]; exact (yieldsIn_of_yieldsIf hCS hy).qOp hi H
    · by_cases hex : ∃ w, C w
      · obtain ⟨w, hw⟩ := hex
        have := ready_mono hj hji
        rw [(H w hw).1] at this
        cases this
      · split
        · exact fun w hw => absurd ⟨w, hw⟩ hex
        · obtain ⟨hjun, oj, hoj, hall⟩ := mem_ready.1 hj
          unfold qOp
          simp only [hoj]
          split
          · exact ⟨undef, fun w hw => absurd ⟨w, hw⟩ hex, fun w hw => absurd ⟨w, hw⟩ hex⟩
          · exact fun w hw => absurd ⟨w, hw⟩ hex
  | succ f ih =>
    intro listed a hfree hr hy H
    refine ⟨fun h => (by rw [h] at hr; cases hr), fun j hj => ?_⟩
    by_cases hji : j = i
    · subst hji; rw [if_neg hiT]; exact (yieldsIn_of_yieldsIf hCS hy).qOp hi H
    · have h1 := H.2 j (ready_mono hj hji)
      have hun := (mem_ready.1 hr).1
      obtain ⟨hjun, oj, hoj, hall⟩ := mem_ready.1 hj
      have hap := hfree j oj hoj hji hjun (not_on (md := md) hun hall)
      by_cases hT : j ∈ T
      · rw [if_pos hT] at h1 ⊢
        intro w hw
        have h2 := wpOp_putIf (S := S) hoj hap (fun cs b => hsel i oi cs b hi) (fun cs b => hsel j oj cs b hoj) (fun c a w => hQ c a _ _ w) hy (h1 w hw)
        have hEj : E j = false := by
          cases hEj : E j with
          | false => rfl
          | true =>
            obtain ⟨e, he, hb, ho⟩ := hE j oj hoj hEj
            exact absurd ho (not_on (md := md) hun hall e he hb)
        refine wpOp_mono (fun a' w' h3 => ⟨h3.2.1, ?_⟩) h2
        refine wpAnyJ_first hi hsel (fun c a w => hQ c a _ _ w) hE f (listed.setIfInBounds j true) a' w' (free_next hfree hjun) (ready_mono hr (Ne.symm hji)) h3.1 (h3.2.1 hEj) ?_
        rw [Array.setIfInBounds_comm _ _ hji]
        exact h3.2.2
      · rw [if_neg hT] at h1 ⊢
        have h2 := qOp_put hoj hap (fun cs b => hsel i oi cs b hi) (fun cs b => hsel j oj cs b hoj) (yieldsIn_of_yieldsIf (C := C) hCS hy) h1
        have h3 : qOp P ops C j (fun a' => YieldsIf P ops S oi v a' ∧ wpMJ P md ops C S E Q T f ((listed.setIfInBounds i true).setIfInBounds j true) (a'.put oi.dst v)) a := by
          obtain ⟨q1, q2, q3⟩ := Oper.apart_spec hap
          obtain ⟨u, hu, hK⟩ := yieldsIn_of_qOp hoj h2
          exact hu.qOp hoj ⟨hy.of_same (execOp_put oi (fun cs b => hsel i oi cs b hi) a oj.dst u q3) (wanted_put oi a oj.dst u q3), hK.2⟩
        refine qOp_mono (fun a' h4 => ih (listed.setIfInBounds j true) a' (free_next hfree hjun) (ready_mono hr (Ne.symm hji)) h4.1 ?_) h3
        rw [Array.setIfInBounds_comm _ _ hji]
        exact h4.2
theorem wpMJ_firstH {Q : Exit → Act → World → Prop} {T : List Nat} {i : Nat} {oi : Oper} {v : Value} (hi : ops[i]? = some oi) (hsel : ∀ (j : Nat) (o : Oper) cs b, ops[j]? = some o → o.op ≠ .select cs b)
    (hiT : i ∉ T) (hbe : ∀ j ∈ T, (behindOf md ops i ops.size).getD j false = true) :
    ∀ (f : Nat) (listed : Array Bool) (a : Act), Closed md ops listed →
      (∀ j oj, ops[j]? = some oj → j ≠ i → listed.getD j true = false → (∀ e ∈ oj.after, Region.binds md e = true → e.on ≠ i) → oi.apart ops oj = true) →
      i ∈ Region.ready md ops listed → YieldsIn P ops C oi v a →
      wpMJ P md ops C S E Q T f (listed.setIfInBounds i true) (a.put oi.dst v) → wpMJ P md ops C S E Q T (f + 1) listed a := by
  intro f
  induction f with
  | zero =>
    intro listed a hc hfree hr hy H
    refine ⟨fun h => (by rw [h] at hr; cases hr), fun j hj => ?_⟩
    have hjT : j ∉ T := fun hT => by
      have hji : j ≠ i := fun e => hiT (e ▸ hT)
      exact not_ready_of_behind hc (getD_ff (mem_ready.1 hr).1) hji (hbe j hT) hj
    rw [if_neg hjT]
    by_cases hji : j = i
    · subst hji; exact hy.qOp hi H
    · by_cases hex : ∃ w, C w
      · obtain ⟨w, hw⟩ := hex
        have := ready_mono hj hji
        rw [(H w hw).1] at this
        cases this
      · obtain ⟨hjun, oj, hoj, hall⟩ := mem_ready.1 hj
        unfold qOp
        simp only [hoj]
        split
        · exact ⟨undef, fun w hw => absurd ⟨w, hw⟩ hex, fun w hw => absurd ⟨w, hw⟩ hex⟩
        · exact fun w hw => absurd ⟨w, hw⟩ hex
  | succ f ih =>
    intro listed a hc hfree hr hy H
    refine ⟨fun h => (by rw [h] at hr; cases hr), fun j hj => ?_⟩
    have hjT : j ∉ T := fun hT => by
      have hji : j ≠ i := fun e => hiT (e ▸ hT)
      exact not_ready_of_behind hc (getD_ff (mem_ready.1 hr).1) hji (hbe j hT) hj
    rw [if_neg hjT]
    by_cases hji : j = i
    · subst hji; exact hy.qOp hi H
    · have h1 := H.2 j (ready_mono hj hji)
      rw [if_neg hjT] at h1
      have hun := (mem_ready.1 hr).1
      obtain ⟨hjun, oj, hoj, hall⟩ := mem_ready.1 hj
      have h2 := qOp_put hoj (hfree j oj hoj hji hjun (not_on (md := md) hun hall)) (fun cs b => hsel i oi cs b hi) (fun cs b => hsel j oj cs b hoj) hy h1
      refine qOp_mono (fun a' h3 => ih (listed.setIfInBounds j true) a' (hc.set hj) (free_next hfree hjun) (ready_mono hr (Ne.symm hji)) h3.1 ?_) h2
      rw [Array.setIfInBounds_comm _ _ hji]
      exact h3.2
theorem wpOp_then {Q : Exit → Act → World → Prop} {next K : Act → World → Prop} {k : Nat} {a : Act} {w : World} (h : wpOp P ops (Exit.then next Q) k K a w) : wpOp P ops Q k K a w := by
  unfold wpOp at *
  split
  · rename_i ho; simp only [ho] at h; exact h
  · rename_i o ho
    simp only [ho] at h
    split
    · rename_i hw
      simp only [hw, if_true] at h
      refine h.imp (fun h1 => ?_) id
      unfold Oper.wp at *
      generalize (execOp a.eval o).run P w = r at *
      cases r with
      | ok n w' =>
        cases n <;> simp only [Oper.upon] at h1 ⊢ <;> first | exact h1 | exact Calls.mono h1 (fun e w'' he => by cases e <;> exact he)
      | halt x w' => cases x <;> simp only [Oper.upon] at h1 ⊢ <;> exact h1
    · rename_i hw
      simp only [hw] at h
      exact h
theorem wpAnyJ_of_seqT2 {Q : Exit → Act → World → Prop} {l : List Oper} {T2 : List Nat} (hl : ops = l.toArray) : ∀ (T : List Nat), (∀ i ∈ T, i ∈ T2) → ∀ (listed : Array Bool) (a : Act) (w : World), seqOn md ops T listed = true →
    wpList P ops Q (sel l T) a w → wpAnyJ P md ops Q S T2.contains T.length listed a w
  | [], _, _, _, _, hB, h => ⟨by simpa [seqOn] using hB, h⟩
  | i :: r, hT, listed, a, w, hB, h => by
    simp only [seqOn, Bool.and_eq_true, decide_eq_true_eq] at hB
    have hmem : i ∈ Region.ready md ops listed := by rw [hB.1]; simp
    obtain ⟨_, o, ho, _⟩ := mem_ready.1 hmem
    have ho' : l[i]? = some o := by subst hl; simpa using ho
    refine ⟨fun h1 => (by rw [hB.1] at h1; cases h1), fun k hk => ?_⟩
    rw [hB.1] at hk
    have hki : k = i := by simpa using hk
    subst hki
    have h' : wpList P ops Q (o :: sel l r) a w := by simpa [sel, ho'] using h
    have hw : wpOp P ops Q k (wpList P ops Q (sel l r)) a w := by unfold wpOp; simp only [ho]; exact h'
    have hkT : T2.contains k = true := by simpa using hT k (by simp)
    exact wpOp_mono (fun a' w' h'' => ⟨(fun hf => by rw [hkT] at hf; cases hf), wpAnyJ_of_seqT2 hl r (fun i hi => hT i (by simp [hi])) _ a' w' hB.2 h''⟩) hw
theorem wpAnyJ_of_seqOn {Q : Exit → Act → World → Prop} {l : List Oper} {T2 : List Nat} (hl : ops = l.toArray) : ∀ (T1 : List Nat) (listed : Array Bool) (a : Act) (w : World), seqOn md ops (T1 ++ T2) listed = true →
    wpListS P ops S (Exit.then (wpList P ops Q (sel l T2)) Q) (sel l T1) a w → wpAnyJ P md ops Q S T2.contains (T1 ++ T2).length listed a w
  | [], listed, a, w, hB, h => wpAnyJ_of_seqT2 hl T2 (fun _ h => h) listed a w hB h
  | i :: r, listed, a, w, hB, h => by
    simp only [List.cons_append, seqOn, Bool.and_eq_true, decide_eq_true_eq] at hB
    have hmem : i ∈ Region.ready md ops listed := by rw [hB.1]; simp
    obtain ⟨_, o, ho, _⟩ := mem_ready.1 hmem
    have ho' : l[i]? = some o := by subst hl; simpa using ho
    refine ⟨fun h1 => (by rw [hB.1] at h1; cases h1), fun k hk => ?_⟩
    rw [hB.1] at hk
    have hki : k = i := by simpa using hk
    subst hki
    have h' : wpListS P ops S (Exit.then (wpList P ops Q (sel l T2)) Q) (o :: sel l r) a w := by simpa [sel, ho'] using h
    have hw : wpOp P ops (Exit.then (wpList P ops Q (sel l T2)) Q) k (fun a' w' => S w' ∧ wpListS P ops S (Exit.then (wpList P ops Q (sel l T2)) Q) (sel l r) a' w') a w := by
      unfold wpOp
      simp only [ho]
      unfold wpListS at h'
      split
      · rename_i hwt; rw [if_pos hwt] at h'; exact .inl h'
      · rename_i hwt; rw [if_neg hwt] at h'; exact h'
    have hw2 : wpOp P ops Q k (fun a' w' => S w' ∧ wpListS P ops S (Exit.then (wpList P ops Q (sel l T2)) Q) (sel l r) a' w') a w := wpOp_then hw
    exact wpOp_mono (fun a' w' h'' => ⟨fun _ => h''.1, wpAnyJ_of_seqOn hl r _ a' w' hB.2 h''.2⟩) hw2
/-- All of T2 wait for i. -/
def waits (md : Region.Mode) (ops : Array Oper) (T2 : List Nat) (i : Nat) : Bool := T2.all fun j => match ops[j]? with | some oj => oj.after.any (fun e => Region.binds md e && e.on == i) | none => true
theorem waits_spec {T2 : List Nat} {i : Nat} (h : waits md ops T2 i = true) : ∀ j oj, ops[j]? = some oj → T2.contains j = true → ∃ e ∈ oj.after, Region.binds md e = true ∧ e.on = i := by
  intro j oj hj hc
  have h1 := List.all_eq_true.1 h j (by simpa using hc)
  rw [hj] at h1
  simp only [Array.any_eq_true] at h1
  obtain ⟨n, hn, h2⟩ := h1
  simp only [Bool.and_eq_true, beq_iff_eq] at h2
  exact ⟨oj.after[n], Array.getElem_mem hn, h2.1, h2.2⟩
theorem wpMJ_ordI {Q : Exit → Act → World → Prop} {l : List Oper} (hCS : ∀ w, C w → S w) (hl : ops = l.toArray) (hQ : ∀ c (a : Act) d v w, Q (.panic c) (a.put d v) w → Q (.panic c) a w) (hsel : Region.noSelect ops = true) {T1 T2 : List Nat} :
    ∀ (I : List Nat) (listed : Array Bool) (a : Act), I.all (waits md ops T2) = true → ordI md ops (T1 ++ T2) I listed = true → wpHeld P ops S (fun a' => ∀ w, C w → wpListS P ops S (Exit.then (wpList P ops Q (sel l T2)) Q) (sel l T1) a' w) (sel l I) a → wpMJ P md ops C S T2.contains Q (T1 ++ T2) (I.length + (T1 ++ T2).length) listed a
  | [], listed, a, hW, hB, h => by
    simp only [ordI] at hB
    have key : ∀ w, C w → wpAnyJ P md ops Q S T2.contains (T1 ++ T2).length listed a w := fun w hw => wpAnyJ_of_seqOn hl T1 listed a w hB (h w hw)
    simp only [List.length_nil, Nat.zero_add]
    generalize hT : T1 ++ T2 = T at key hB ⊢
    cases T with
    | nil => exact key
    | cons i r =>
      simp only [seqOn, Bool.and_eq_true, decide_eq_true_eq] at hB
      refine ⟨fun h1 => (by rw [hB.1] at h1; cases h1), fun k hk => ?_⟩
      have hk' := hk
      rw [hB.1] at hk'
      have hki : k = i := by simpa using hk'
      subst hki
      rw [if_pos (by simp)]
      exact fun w hw => (key w hw).2 k hk
  | i :: r, listed, a, hW, hB, h => by
    simp only [ordI, Bool.and_eq_true, Bool.not_eq_true'] at hB
    simp only [List.all_cons, Bool.and_eq_true] at hW
    obtain ⟨⟨⟨hT, hr⟩, hf⟩, hB'⟩ := hB
    have hr' : i ∈ Region.ready md ops listed := by simpa using hr
    obtain ⟨_, o, ho, _⟩ := mem_ready.1 hr'
    have ho' : l[i]? = some o := by subst hl; simpa using ho
    have h' : wpHeld P ops S (fun a' => ∀ w, C w → wpListS P ops S (Exit.then (wpList P ops Q (sel l T2)) Q) (sel l T1) a' w) (o :: sel l r) a := by simpa [sel, ho'] using h
    obtain ⟨v, hy, hK⟩ := yieldsIf_of h'
    rw [show (i :: r).length + (T1 ++ T2).length = (r.length + (T1 ++ T2).length) + 1 by simp only [List.length_cons]; omega]
    exact wpMJ_firstI hCS (waits_spec hW.1) ho (Region.noSelect_spec hsel) hQ (by simpa using hT) _ listed a (Region.free_spec ho hf) hr' hy (wpMJ_ordI hCS hl hQ hsel r _ _ hW.2 hB' hK)
theorem wpMJ_ordH {Q : Exit → Act → World → Prop} {l : List Oper} (hCS : ∀ w, C w → S w) (hl : ops = l.toArray) (hQ : ∀ c (a : Act) d v w, Q (.panic c) (a.put d v) w → Q (.panic c) a w) (hsel : Region.noSelect ops = true) {I T1 T2 : List Nat} (hW : I.all (waits md ops T2) = true) :
    ∀ (H : List Nat) (listed : Array Bool) (a : Act), Closed md ops listed → ordH md ops I (T1 ++ T2) H listed = true → wpQuiet P ops C (fun a1 => wpHeld P ops S (fun a' => ∀ w, C w → wpListS P ops S (Exit.then (wpList P ops Q (sel l T2)) Q) (sel l T1) a' w) (sel l I) a1) (sel l H) a →
    wpMJ P md ops C S T2.contains Q (T1 ++ T2) (H.length + (I.length + (T1 ++ T2).length)) listed a
  | [], listed, a, _, hB, h => by
    simp only [ordH] at hB
    simp only [List.length_nil, Nat.zero_add]
    exact wpMJ_ordI hCS hl hQ hsel I listed a hW hB h
  | i :: r, listed, a, hc, hB, h => by
    simp only [ordH, Bool.and_eq_true, Bool.not_eq_true'] at hB
    obtain ⟨⟨⟨⟨hT, hbe⟩, hr⟩, hf⟩, hB'⟩ := hB
    have hr' : i ∈ Region.ready md ops listed := by simpa using hr
    obtain ⟨_, o, ho, _⟩ := mem_ready.1 hr'
    have ho' : l[i]? = some o := by subst hl; simpa using ho
    have hst : qOp P ops C i (wpQuiet P ops C (fun a1 => wpHeld P ops S (fun a' => ∀ w, C w → wpListS P ops S (Exit.then (wpList P ops Q (sel l T2)) Q) (sel l T1) a' w) (sel l I) a1) (sel l r)) a := by
      have h' : wpQuiet P ops C (fun a1 => wpHeld P ops S (fun a' => ∀ w, C w → wpListS P ops S (Exit.then (wpList P ops Q (sel l T2)) Q) (sel l T1) a' w) (sel l I) a1) (o :: sel l r) a := by simpa [sel, ho'] using h
      unfold qOp; simp only [ho]; exact h'
    obtain ⟨v, hy, hK⟩ := yieldsIn_of_qOp ho hst
    rw [show (i :: r).length + (I.length + (T1 ++ T2).length) = (r.length + (I.length + (T1 ++ T2).length)) + 1 by simp only [List.length_cons]; omega]
    exact wpMJ_firstH ho (Region.noSelect_spec hsel) (by simpa using hT) (fun j hj => List.all_eq_true.1 hbe j hj) _ listed a hc (Region.free_spec ho hf) hr' hy (wpMJ_ordH hCS hl hQ hsel hW r _ _ (hc.set hr') hB' hK)
/-- One walk of the chosen order serves every order, S held up to T2. -/
theorem wp_region_ordJ {id : Nat} {Q : Exit → Act → World → Prop} {a : Act} {w : World} {l : List Oper} (S : World → Prop) (H I T1 T2 : List Nat) (hm : P.follows .mixedOrders = true) (hB : (ordB l.toArray H I (T1 ++ T2) && I.all (waits .any l.toArray T2)) = true)
    (hQ : ∀ c (a : Act) d v w, Q (.panic c) (a.put d v) w → Q (.panic c) a w) (hS : ∀ k, S (w.drewN k))
    (h : wpQuiet P l.toArray (fun w' => ∃ k, w' = w.drewN k) (fun a1 => wpHeld P l.toArray S (fun a' => ∀ w', (∃ k, w' = w.drewN k) → wpListS P l.toArray S (Exit.then (wpList P l.toArray Q (sel l T2)) Q) (sel l T1) a' w') (sel l I) a1) (sel l H) a) : (Code.region id l.toArray true).wp P Q a w := by
  simp only [ordB, Bool.and_eq_true, decide_eq_true_eq] at hB
  obtain ⟨⟨⟨hsel, hlen⟩, hmix⟩, hW⟩ := hB
  have hCS : ∀ w', (∃ k, w' = w.drewN k) → S w' := by rintro _ ⟨k, rfl⟩; exact hS k
  refine wp_region_any hm ?_
  have := wpAnyJ_of_wpMJ hCS _ _ _ (wpMJ_ordH (P := P) (C := fun w' => ∃ k, w' = w.drewN k) (md := .any) hCS rfl hQ hsel hW H (Array.replicate l.toArray.size false) a (fun j oj _ hl => by rw [getD_replicate_false] at hl; cases hl) hmix h) { w with drawn := w.drawn + 1 } ⟨1, rfl⟩
  rw [hlen] at this
  exact wpAny_of_J _ _ _ _ this
end
end Go.Proofs.YtmbjealliinpdaaGreat
end

section

namespace Go.Proofs.YtmbjealliinpdaaGreat
open Go.RowKit
section
variable {P : Program}
/-- An append where S is held. -/
theorem wpListS_append_Own {S : World → Prop} {w : World} {ops : Array Oper} {rest : List Oper} {o : Oper} {a : Act} {Q : Exit → Act → World → Prop} (hgd : Region.wanted o (yielded ops a.tmps) = true) (s x : Operand) (t tx : TypeId)
    (ho : o.op = .call { callee := .builtin .append, args := #[s, x], argTypes := #[t, tx] })
    (e : TypeId) (i : TypeInfo) (z : Value) (size bytes : Nat) (ht : P.underlying t = some (.slice e)) (hi : P.info? e = some i) (hz : i.zero = some z)
    (hsize : i.size = size) (hby : i.bytes = bytes) (hzs : z.cells.size = size) {v : Value} {n : Nat} {l : List Value} {g : Option Nat} (hv : a.eval s = v) (hown : Own w e size v n l g)
    {y : Value} {m : Nat} {news : List Value} (hy : a.eval x = y) (hs : Src P size tx y m news w) (h63 : n + m ≤ maxLen) (hbytes : (n + m) * bytes ≤ 140737488355328)
    (h : ∀ a' c' w' g', Own w' e size (.slice a' (n + m) c') (n + m) (l ++ news) g' → Kept (fun k => g = some k) w w' → (∀ k, g' = some k → g = some k ∨ w.heap.size ≤ k) → S w' ∧ wpListS P ops S Q rest (a.put o.dst (.slice a' (n + m) c')) w') : wpListS P ops S Q (o :: rest) a w := by
  obtain ⟨v', w', g', hr, h2, h3, h4⟩ := run_append_Own (P := P) t tx o.type e i z size bytes ht hi hz hsize hby hzs hown hs h63 hbytes
  obtain ⟨a', c', rfl, -, -⟩ := h2.shape
  unfold wpListS
  rw [if_pos hgd]
  unfold Oper.wp execOp
  simp only [ho, resolve, invoke, builtin, Sem.run_bind, Sem.run_pure, Result.andThen_ok, List.map_toArray, List.map_cons, List.map_nil, hv, hy, hr]
  exact h _ _ w' g' h2 h3 h4
end
theorem leB_snoc (k n : Nat) : leB (k + 1) n = leB k n ++ [UInt8.ofNat (n / 256 ^ k % 256)] := by
  induction k generalizing n with
  | zero => simp [leB]
  | succ k ih =>
    rw [leB, ih, leB, List.cons_append, Nat.div_div_eq_div_mul, Nat.pow_succ, Nat.mul_comm 256]
/-- A codec that writes: what it has written. -/
structure Writes (w : World) (c : Nat) (out : List UInt8) (g : Option Nat) : Prop where
  ex : ∃ vo, w.heap[c]? = some (.cells #[vo, .slice none 0 0, .bool false] 138) ∧ Own w 5 1 vo out.length (out.map bv) g
theorem Writes.kept {F : Nat → Prop} {w w' : World} {c : Nat} {out : List UInt8} {g : Option Nat} (h : Writes w c out g) (hk : Kept F w w') (hc : ¬ F c) (hf : ∀ k, g = some k → ¬ F k) : Writes w' c out g := by
  obtain ⟨vo, h1, h2⟩ := h.ex
  exact ⟨vo, (hk.block _ (lt_in h1) hc).trans h1, h2.kept hk hf⟩
/-- What a writing call leaves. -/
def Wrote (w w' : World) (c : Nat) (out : List UInt8) (g : Option Nat) (more : List UInt8) : Prop := ∃ g', Writes w' c (out ++ more) g' ∧ Kept (fun k => k = c ∨ g = some k) w w' ∧ ∀ k, g' = some k → g = some k ∨ w.heap.size ≤ k
theorem shr_byte (V k : Nat) : IntKind.u8.wrap ((V : Int) / 2 ^ (8 * (k : Int)).toNat) = ((V / 256 ^ k % 256 : Nat) : Int) := by
  rw [show (256 : Nat) ^ k = 2 ^ (8 * k) by rw [Nat.pow_mul], show (8 * (k : Int)).toNat = 8 * k by omega, IntKind.wrap_u8]
  rw [Int.natCast_emod, Int.natCast_ediv, Int.natCast_pow]
  rfl
theorem wordWrite_c {w : World} {c : Nat} {out : List UInt8} {g : Option Nat} (h : Writes w c out g) (V n : Nat) (hV : V < 18446744073709551616) (hn : n ≤ 8) (hm : out.length ≤ 140737488354500) :
    Calls Tryz.prog 137 #[.pointer (some ⟨c, 0, none⟩), .int .u64 V, .int .i64 n] w fun e w' => e = .returned (.int .u64 V) ∧ Wrote w w' c out g (leB n V) := by
  obtain ⟨i0, hi, hz0, hz1, hz2⟩ := info_all u8info
  obtain ⟨vo, h1, h2⟩ := h.ex
  have c2 : w.cell? ⟨c, 2, none⟩ = some (.bool false) := cell_in h1
  have hl := lt_in h1
  have H1 := Lib.hid h1
  have HW := Lib.hid h
  clear h1 h
  go_enter Tryz.func137, Tryz.ntmps137
  go_wp2
  go_loopw [15] (fun i w' => ∃ k : Nat, k ≤ n ∧ i = .int .i64 k ∧ Wrote w w' c out g (leB k V)) (fun i _ => n - (intOf i).toNat)
  case atStart => exact ⟨0, by omega, rfl, g, by simpa [leB] using HW.out, Kept.refl _ _, fun k hk => .inl hk⟩
  case round =>
    obtain ⟨k, hk, rfl, g', hw, hkk, hgg⟩ := hrel
    by_cases hk2 : k < n
    · have hki : (k : Int) < (n : Int) := by omega
      obtain ⟨L, hL⟩ : ∃ L, L = out ++ leB k V := ⟨_, rfl⟩
      have hLl : L.length ≤ 140737488354508 := by rw [hL, List.length_append, leB_length]; omega
      rw [← hL] at hw
      have HL := Lib.hid hL
      clear hL
      obtain ⟨vo', q1, q2⟩ := hw.ex
      obtain ⟨a, cp, rfl, hac, -⟩ := q2.shape
      have z0 : wr.cell? ⟨c, 0, none⟩ = some (.slice a L.length cp) := cell_in q1
      have hl2 := lt_in q1
      have Q1 := Lib.hid q1
      clear q1
      have es := shr_byte V k
      obtain ⟨B, hB⟩ : ∃ B : Nat, B = V / 256 ^ k % 256 := ⟨_, rfl⟩
      have hBl : B < 256 := by rw [hB]; exact Nat.mod_lt _ (by decide)
      rw [← hB] at es
      have HB := Lib.hid hB
      clear hB
      have w8 : IntKind.i64.wrap (8 * (k : Int)) = 8 * (k : Int) := IntWalk.i64_in _ (by omega)
      have hnn : ¬ (8 * (k : Int)) < 0 := by omega
      go_wp2
      refine wp_region_ordJ (fun w' => w'.heap[c]? = some (.cells #[.slice a L.length cp, .slice none 0 0, .bool false] 138)) [5, 6, 7, 8, 9] [0, 1, 2, 3, 4] [10, 11] [12, 13, 14] (by kernel_rfl) (by kernel_rfl) (fun _ _ d _ _ h => by cases d <;> exact h) (fun k => Q1.out) ?_
      simp only [sel, List.filterMap_cons, List.filterMap_nil, List.getElem?_cons_zero, List.getElem?_cons_succ]
      repeat (quiet_step (fail))
      refine wpQuiet_nil ?_
      refine wpHeld_step (fun K hK => ?_)
      go_simp
      refine ⟨_, fun _ _ => rfl, hK _ ?_⟩
      refine wpHeld_step (fun K hK => ?_)
      go_simp
      refine ⟨_, fun _ _ => rfl, hK _ ?_⟩
      refine wpHeld_step (fun K hK => ?_)
      go_simp
      refine ⟨_, fun _ _ => rfl, hK _ ?_⟩
      refine wpHeld_step (fun K hK => ?_)
      go_simp
      refine ⟨_, fun _ _ => rfl, hK _ ?_⟩
      refine wpHeld_step (fun K hK => ?_)
      go_simp
      refine ⟨.slice a L.length cp, fun w' h => (by
        have h1 := cell_in (k := 0) h
        have h2 := lt_in h
        simp only [List.getElem?_toArray, List.getElem?_cons_zero] at h1
        clear h z0
        go_simp), hK _ ?_⟩
      refine wpHeld_nil ?_
      rintro _ ⟨nr, rfl⟩
      have K3 := hkk.dN nr
      have q3 := q2.drewN nr
      have Q3 : Hid ((wr.drewN nr).heap[c]? = some (.cells #[.slice a L.length cp, .slice none 0 0, .bool false] 138)) := Lib.hid Q1.out
      generalize wr.drewN nr = w3 at K3 q3 Q3 ⊢
      clear z0 q2 Q1
      refine wpListS_step (fun K hK => ?_)
      go_simp
      have hA : (w3.alloc (Obj.cells #[Value.int IntKind.u8 B] 5)).heap[c]? = some (.cells #[.slice a L.length cp, .slice none 0 0, .bool false] 138) := (Below.heap_alloc _ _ _ (lt_in Q3.out)).trans Q3.out
      refine hK _ _ hA ?_
      clear hK
      have q4 := q3.kept (Kept.alloc (fun _ => False) w3 (Obj.cells #[Value.int IntKind.u8 B] 5)) (fun _ _ h => h)
      have r4 : Reads (w3.alloc (Obj.cells #[Value.int IntKind.u8 B] 5)) 1 (.slice (some ⟨w3.heap.size, 0, none⟩) 1 1) 1 ([UInt8.ofNat B].map bv) (some w3.heap.size) := by
        have := (own_alloc w3 [.int .u8 B] 5 1 rfl (by decide)).reads
        simpa [bv_ofNat B hBl] using this
      have hgc := q4.ne hA (by decide)
      have K4 := K3.al (Obj.cells #[Value.int IntKind.u8 B] 5)
      have hs4 : (w3.alloc (Obj.cells #[Value.int IntKind.u8 B] 5)).heap.size = w3.heap.size + 1 := by simp
      generalize w3.alloc (Obj.cells #[Value.int IntKind.u8 B] 5) = w4 at hA q4 r4 hgc K4 hs4 ⊢
      refine wpListS_append_Own rfl _ _ 22 22 rfl 5 i0 (.int .u8 0) 1 1 Tryz.underlying22 hi hz0 hz1 hz2 rfl rfl q4 rfl (r4.src Tryz.underlying22 (bv_one _)) (by unfold maxLen; omega) (by omega) ?_
      intro a5 k5 w5 g5 hown5 hk5 hg5
      have hA5 : w5.heap[c]? = _ := (hk5.block _ (lt_in hA) (fun h => hgc c h rfl)).trans hA
      refine ⟨hA5, ?_⟩
      refine wpListS_nil ?_
      have f0 : w5.frozen? ⟨c, 0, none⟩ = false := frozen_in hA5
      have z5 := cell_in (k := 0) hA5
      have hl5 := lt_in hA5
      simp only [List.getElem?_toArray, List.getElem?_cons_zero] at z5
      have H5 := Lib.hid hA5
      clear hA5 hA
      have e9 : (L.map bv ++ [UInt8.ofNat B].map bv) = (out ++ leB (k + 1) V).map bv := by rw [leB_snoc, ← HB.out, ← List.append_assoc, ← HL.out, List.map_append]
      have e8 : L.length + 1 = (out ++ leB (k + 1) V).length := by rw [leB_snoc, ← List.append_assoc, ← HL.out, List.length_append]; rfl
      rw [e9] at hown5
      have H9 := Lib.hid e8
      clear e9 e8
      have K5 : Kept (fun k => k = c ∨ g = some k) w w5 := K4.thn hk5 (fun i hi => by
        rcases hgg i hi with h | h
        · exact .inl (.inr h)
        · exact .inr h)
      have hg5' : ∀ k, g5 = some k → g = some k ∨ w.heap.size ≤ k := fun k hk => by
        rcases hg5 k hk with h | h
        · exact hgg k h
        · have := K4.size; exact .inr (by omega)
      have hown6 := Lib.hid hown5
      have hne5 := hown5.ne H5.out (by decide)
      clear hown5 q4 r4 hk5 hg5
      go_wp2
      refine ⟨⟨k + 1, by omega, by simp, g5, ⟨_, heap_setCell_same (o := 0) H5.out _, ?_⟩, K5.st _ (.inl (.inl rfl)), hg5'⟩, by simp [intOf]; omega⟩
      have h7 := hown6.out
      rw [H9.out] at h7 ⊢
      exact h7.kept (Kept.setCell (F := (· = c)) _ _ _ rfl) (fun k hk => hne5 k hk)
    · obtain rfl : k = n := by omega
      go_wp2
      go_ret
      exact ⟨rfl, g', hw, hkk, hgg⟩
end Go.Proofs.YtmbjealliinpdaaGreat
end

section

namespace Go.Proofs.YtmbjealliinpdaaGreat
open Go.RowKit
/-- A number of 64 bits as it is written. -/
def u64 (n : Int) : Nat := (n % 18446744073709551616).toNat
theorem u64_lt (n : Int) : u64 n < 18446744073709551616 := by unfold u64; omega
theorem u64_eq (n : Int) : ((u64 n : Nat) : Int) = n % 18446744073709551616 := by unfold u64; omega
def encI (x : Int) : List UInt8 := leB 8 (u64 x)
/-- A slice of bytes that has grown. -/
def Grew (w w' : World) (v : Value) (out : List UInt8) (g : Option Nat) (more : List UInt8) : Prop :=
  ∃ g', Own w' 5 1 v (out ++ more).length ((out ++ more).map bv) g' ∧ Kept (fun k => g = some k) w w' ∧ ∀ k, g' = some k → g = some k ∨ w.heap.size ≤ k
theorem Grew.none {w : World} {v : Value} {out : List UInt8} {g : Option Nat} (h : Own w 5 1 v out.length (out.map bv) g) : Grew w w v out g [] :=
  ⟨g, by simpa using h, Kept.refl _ _, fun k hk => .inl hk⟩
theorem Grew.byte {w wr w5 : World} {g g' g5 a5 : Option _} {k5 : Nat} {out more L : List UInt8} {b : UInt8} {o : Obj} (hkk : Kept (fun k => g = some k) w wr) (hgg : ∀ k, g' = some k → g = some k ∨ w.heap.size ≤ k)
    (hown5 : Own w5 5 1 (.slice a5 (L.length + 1) k5) (L.length + 1) (L.map bv ++ [b].map bv) g5) (hk5 : Kept (fun k => g' = some k) (wr.alloc o) w5) (hg5 : ∀ k, g5 = some k → g' = some k ∨ (wr.alloc o).heap.size ≤ k) (hL : out ++ more = L ++ [b]) :
    Grew w w5 (.slice a5 (L.length + 1) k5) out g more := by
  have hs : (wr.alloc o).heap.size = wr.heap.size + 1 := by simp
  have h0 := hkk.size
  refine ⟨g5, ?_, (hkk.al o).thn hk5 (fun i hi => ?_), fun k hk => ?_⟩
  · rw [hL, List.length_append, List.map_append]
    exact hown5
  · rcases hgg i hi with h | h
    · exact .inl h
    · exact .inr h
  · rcases hg5 k hk with h | h
    · exact hgg k h
    · exact .inr (by omega)
theorem pow64 {k : Nat} (hk : k < 8) : (18446744073709551616 : Int) = 2 ^ (8 * k) * (256 * 2 ^ (56 - 8 * k)) := by
  have h : k = 0 ∨ k = 1 ∨ k = 2 ∨ k = 3 ∨ k = 4 ∨ k = 5 ∨ k = 6 ∨ k = 7 := by omega
  rcases h with rfl | rfl | rfl | rfl | rfl | rfl | rfl | rfl <;> decide
/-- Byte k of a number, by a shift of the signed one. -/
theorem sar_byte (n : Int) (k : Nat) (hk : k < 8) : (n / 2 ^ (8 * k)) % 256 = ((u64 n / 256 ^ k % 256 : Nat) : Int) := by
  have hp : ((256 : Nat) ^ k) = 2 ^ (8 * k) := by rw [Nat.pow_mul]
  rw [hp, Int.natCast_emod, Int.natCast_ediv, Int.natCast_pow, u64_eq]
  have hpos : (0 : Int) < 2 ^ (8 * k) := Int.pow_pos (by decide)
  have h1 : n = n % 18446744073709551616 + 2 ^ (8 * k) * ((256 * 2 ^ (56 - 8 * k)) * (n / 18446744073709551616)) := by
    have := Int.emod_add_mul_ediv n 18446744073709551616
    rw [← Int.mul_assoc, ← pow64 hk]
    omega
  conv => lhs; rw [h1]
  rw [Int.add_mul_ediv_left _ _ (by omega), Int.mul_assoc, Int.add_mul_emod_self_left]
  rfl
theorem int_c {w : World} {v : Value} {out : List UInt8} {g : Option Nat} (h : Own w 5 1 v out.length (out.map bv) g) (n : Int) (hm : out.length ≤ 140737488354500) :
    Calls Tryz.prog 90 #[v, .int .i64 n] w fun e w' => ∃ v', e = .returned v' ∧ Grew w w' v' out g (encI n) := by
  obtain ⟨i0, hi, hz0, hz1, hz2⟩ := info_all u8info
  go_enter Tryz.func90, Tryz.ntmps90
  go_wp2
  go_loopw [6, 0] (fun i x w' => ∃ k : Nat, k ≤ 8 ∧ i = .int .i64 k ∧ Grew w w' x out g (leB k (u64 n))) (fun i _ _ => 8 - (intOf i).toNat)
  case atStart => exact ⟨0, by omega, rfl, by simpa [leB] using Grew.none h⟩
  case round =>
    obtain ⟨k, hk, rfl, g', ho, hkk, hgg⟩ := hrel
    by_cases hk2 : k < 8
    · have hki : (k : Int) < 8 := by omega
      have hLe : out ++ leB (k + 1) (u64 n) = (out ++ leB k (u64 n)) ++ [UInt8.ofNat (u64 n / 256 ^ k % 256)] := by rw [leB_snoc, List.append_assoc]
      have HLe := Lib.hid hLe
      clear hLe
      obtain ⟨L, hL⟩ : ∃ L, L = out ++ leB k (u64 n) := ⟨_, rfl⟩
      have hLl : L.length ≤ 140737488354508 := by rw [hL, List.length_append, leB_length]; omega
      rw [← hL] at ho HLe
      clear hL
      obtain ⟨a, cp, rfl, hac, -⟩ := ho.shape
      obtain ⟨B, hB⟩ : ∃ B : Nat, B = u64 n / 256 ^ k % 256 := ⟨_, rfl⟩
      have hBl : B < 256 := by rw [hB]; exact Nat.mod_lt _ (by decide)
      have es := sar_byte n k hk2
      rw [← hB] at es HLe
      clear hB
      have w8 : IntKind.i64.wrap (8 * (k : Int)) = 8 * (k : Int) := IntWalk.i64_in _ (by omega)
      have hnn : ¬ (8 * (k : Int)) < 0 := by omega
      have r4 : ∀ w : World, Reads (w.alloc (.cells #[.int .u8 B] 5)) 1 (.slice (some ⟨w.heap.size, 0, none⟩) 1 1) 1 ([UInt8.ofNat B].map bv) (some w.heap.size) := fun w => by
        have := (own_alloc w [.int .u8 B] 5 1 rfl (by decide)).reads
        simpa [bv_ofNat B hBl] using this
      go_wp2_with (at_builtin; refine wpList_append_Own rfl _ _ 22 22 rfl 5 i0 (.int .u8 0) 1 1 Tryz.underlying22 hi hz0 hz1 hz2 rfl rfl (ho.kept (Kept.alloc (fun _ => False) _ _) (fun _ _ h => h)) rfl (by exact (r4 _).src Tryz.underlying22 (bv_one _)) (by unfold maxLen; omega) (by omega) ?_; intro a5 k5 w5 g5 hown5 hk5 hg5)
      exact ⟨⟨k + 1, by omega, by simp, Grew.byte hkk hgg hown5 hk5 hg5 HLe.out⟩, by simp [intOf]; omega⟩
    · obtain rfl : k = 8 := by omega
      go_wp2
      go_ret
      exact ⟨_, rfl, g', ho, hkk, hgg⟩
theorem word4_c {w : World} {v : Value} {out : List UInt8} {g : Option Nat} (h : Own w 5 1 v out.length (out.map bv) g) (n : Nat) (hn : n < 4294967296) (hm : out.length ≤ 140737488354500) :
    Calls Tryz.prog 143 #[v, .int .u32 n] w fun e w' => ∃ v', e = .returned v' ∧ Grew w w' v' out g (leB 4 n) := by
  obtain ⟨i0, hi, hz0, hz1, hz2⟩ := info_all u8info
  go_enter Tryz.func143, Tryz.ntmps143
  go_wp2
  go_loopw [6, 0] (fun i x w' => ∃ k : Nat, k ≤ 4 ∧ i = .int .i64 k ∧ Grew w w' x out g (leB k n)) (fun i _ _ => 4 - (intOf i).toNat)
  case atStart => exact ⟨0, by omega, rfl, by simpa [leB] using Grew.none h⟩
  case round =>
    obtain ⟨k, hk, rfl, g', ho, hkk, hgg⟩ := hrel
    by_cases hk2 : k < 4
    · have hki : (k : Int) < 4 := by omega
      have hLe : out ++ leB (k + 1) n = (out ++ leB k n) ++ [UInt8.ofNat (n / 256 ^ k % 256)] := by rw [leB_snoc, List.append_assoc]
      have HLe := Lib.hid hLe
      clear hLe
      obtain ⟨L, hL⟩ : ∃ L, L = out ++ leB k n := ⟨_, rfl⟩
      have hLl : L.length ≤ 140737488354508 := by rw [hL, List.length_append, leB_length]; omega
      rw [← hL] at ho HLe
      clear hL
      obtain ⟨a, cp, rfl, hac, -⟩ := ho.shape
      obtain ⟨B, hB⟩ : ∃ B : Nat, B = n / 256 ^ k % 256 := ⟨_, rfl⟩
      have hBl : B < 256 := by rw [hB]; exact Nat.mod_lt _ (by decide)
      have es : (n : Int) / 2 ^ (8 * k) % 256 = (B : Int) := by
        have := shr_byte n k
        rw [IntKind.wrap_u8, show (8 * (k : Int)).toNat = 8 * k by omega] at this
        rw [this, hB]
      rw [← hB] at HLe
      clear hB
      have w8 : IntKind.i64.wrap (8 * (k : Int)) = 8 * (k : Int) := IntWalk.i64_in _ (by omega)
      have hnn : ¬ (8 * (k : Int)) < 0 := by omega
      have r4 : ∀ w : World, Reads (w.alloc (.cells #[.int .u8 B] 5)) 1 (.slice (some ⟨w.heap.size, 0, none⟩) 1 1) 1 ([UInt8.ofNat B].map bv) (some w.heap.size) := fun w => by
        have := (own_alloc w [.int .u8 B] 5 1 rfl (by decide)).reads
        simpa [bv_ofNat B hBl] using this
      go_wp2_with (at_builtin; refine wpList_append_Own rfl _ _ 22 22 rfl 5 i0 (.int .u8 0) 1 1 Tryz.underlying22 hi hz0 hz1 hz2 rfl rfl (ho.kept (Kept.alloc (fun _ => False) _ _) (fun _ _ h => h)) rfl (by exact (r4 _).src Tryz.underlying22 (bv_one _)) (by unfold maxLen; omega) (by omega) ?_; intro a5 k5 w5 g5 hown5 hk5 hg5)
      exact ⟨⟨k + 1, by omega, by simp, Grew.byte hkk hgg hown5 hk5 hg5 HLe.out⟩, by simp [intOf]; omega⟩
    · obtain rfl : k = 4 := by omega
      go_wp2
      go_ret
      exact ⟨_, rfl, g', ho, hkk, hgg⟩
theorem leB_mod (k n : Nat) : leB k (n % 256 ^ k) = leB k n := by
  induction k generalizing n with
  | zero => rfl
  | succ k ih =>
    have h1 : n % 256 ^ (k + 1) % 256 = n % 256 := Nat.mod_mod_of_dvd _ ⟨256 ^ k, by rw [Nat.pow_succ, Nat.mul_comm]⟩
    have h2 : n % 256 ^ (k + 1) / 256 = n / 256 % 256 ^ k := by rw [Nat.pow_succ, Nat.mul_comm (256 ^ k), Nat.mod_mul_right_div_self]
    simp only [leB, h1, h2, ih]
theorem countRef_c {w : World} {v : Value} {out : List UInt8} {g : Option Nat} (h : Own w 5 1 v out.length (out.map bv) g) (n : Nat) (hm : out.length ≤ 140737488354500) :
    Calls Tryz.prog 93 #[v, .int .i64 n] w fun e w' => ∃ v', e = .returned v' ∧ Grew w w' v' out g (leB 4 n) := by
  obtain ⟨m, hm1⟩ : ∃ m, m = n % 4294967296 := ⟨_, rfl⟩
  have hm2 : m < 4294967296 := by omega
  have e1 : (n : Int) % 4294967296 = (m : Int) := by omega
  have e2 : leB 4 n = leB 4 m := by rw [hm1]; exact (leB_mod 4 n).symm
  rw [e2]
  clear hm1 e2
  go_enter Tryz.func93, Tryz.ntmps93
  go_wp2_with fail
  refine (word4_c h m hm2 hm).mono ?_
  rintro e w1 ⟨v1, rfl, hg⟩
  go_wp2
  go_ret
  exact ⟨_, rfl, hg⟩
/-- A truth value as it is written. -/
def bB (b : Bool) : List UInt8 := [if b then 1 else 0]
theorem boolRef_c {w : World} {v : Value} {out : List UInt8} {g : Option Nat} (h : Own w 5 1 v out.length (out.map bv) g) (b : Bool) (hm : out.length ≤ 140737488354500) :
    Calls Tryz.prog 144 #[v, .bool b] w fun e w' => ∃ v', e = .returned v' ∧ Grew w w' v' out g (bB b) := by
  obtain ⟨i0, hi, hz0, hz1, hz2⟩ := info_all u8info
  obtain ⟨a, cp, rfl, hac, -⟩ := h.shape
  have r0 : ∀ (B : Nat) (hB : B < 256) (w : World), Reads (w.alloc (.cells #[.int .u8 B] 5)) 1 (.slice (some ⟨w.heap.size, 0, none⟩) 1 1) 1 ([UInt8.ofNat B].map bv) (some w.heap.size) := fun B hB w => by
    have := (own_alloc w [.int .u8 B] 5 1 rfl (by decide)).reads
    simpa [bv_ofNat B hB] using this
  cases b with
  | true =>
    go_enter Tryz.func144, Tryz.ntmps144
    go_wp2_with (at_builtin; refine wpList_append_Own rfl _ _ 22 22 rfl 5 i0 (.int .u8 0) 1 1 Tryz.underlying22 hi hz0 hz1 hz2 rfl rfl (h.kept (Kept.alloc (fun _ => False) _ _) (fun _ _ h => h)) rfl (by exact (r0 1 (by decide) _).src Tryz.underlying22 (bv_one _)) (by unfold maxLen; omega) (by omega) ?_; intro a5 k5 w5 g5 hown5 hk5 hg5)
    go_ret
    exact ⟨_, rfl, Grew.byte (Kept.refl _ _) (fun k hk => .inl hk) hown5 hk5 hg5 rfl⟩
  | false =>
    go_enter Tryz.func144, Tryz.ntmps144
    go_wp2_with (at_builtin; refine wpList_append_Own rfl _ _ 22 22 rfl 5 i0 (.int .u8 0) 1 1 Tryz.underlying22 hi hz0 hz1 hz2 rfl rfl (h.kept (Kept.alloc (fun _ => False) _ _) (fun _ _ h => h)) rfl (by exact (r0 0 (by decide) _).src Tryz.underlying22 (bv_one _)) (by unfold maxLen; omega) (by omega) ?_; intro a5 k5 w5 g5 hown5 hk5 hg5)
    go_ret
    exact ⟨_, rfl, Grew.byte (Kept.refl _ _) (fun k hk => .inl hk) hown5 hk5 hg5 rfl⟩
end Go.Proofs.YtmbjealliinpdaaGreat
end

section

namespace Go.Proofs.YtmbjealliinpdaaGreat
open Go.RowKit
/-- Does it fit 64 bits? -/
def in64 (n : Int) : Prop := -9223372036854775808 ≤ n ∧ n ≤ 9223372036854775807
/-- A slice of things of 'size' cells each: every one lies in a block of S. -/
def ListIs {α : Type} (size : Nat) (R : World → (Nat → Prop) → List Value → α → Prop) (w : World) (S : Nat → Prop) (v : Value) (xs : List α) : Prop :=
  ∃ a c, v = .slice a xs.length c ∧ xs.length ≤ c ∧ c ≤ maxLen ∧ ∀ (k : Nat) (x : α), xs[k]? = some x → ∃ b off cs, a = some ⟨b, off, none⟩ ∧ S b ∧ cs.length = size ∧ (∀ f, f < size → w.cell? ⟨b, off + k * size + f, none⟩ = cs[f]?) ∧ R w S cs x
theorem ListIs.heap {α : Type} {size : Nat} {R : World → (Nat → Prop) → List Value → α → Prop} {w w' : World} {S S' : Nat → Prop} {v : Value} {xs : List α} (hR : ∀ cs x, R w S cs x → R w' S' cs x) (hS : ∀ k, S k → S' k) (h : ListIs size R w S v xs) (hk : ∀ k, S k → w'.heap[k]? = w.heap[k]?) : ListIs size R w' S' v xs := by
  obtain ⟨a, c, rfl, h1, h2, h3⟩ := h
  refine ⟨a, c, rfl, h1, h2, fun k x hx => ?_⟩
  obtain ⟨b, off, cs, ha, hb, hl, hc, hr⟩ := h3 k x hx
  refine ⟨b, off, cs, ha, hS b hb, hl, fun f hf => ?_, hR _ _ hr⟩
  rw [← hc f hf]
  unfold World.cell?
  rw [hk b hb]
/-- The element of a number. -/
theorem ListIs.at {α : Type} {size : Nat} {R : World → (Nat → Prop) → List Value → α → Prop} {w : World} {S : Nat → Prop} {a : Option Addr} {c : Nat} {xs : List α} (h : ListIs size R w S (.slice a xs.length c) xs) {k : Nat} (hk : k < xs.length) :
    ∃ b off cs, a = some ⟨b, off, none⟩ ∧ S b ∧ cs.length = size ∧ (∀ f, f < size → w.cell? ⟨b, off + k * size + f, none⟩ = cs[f]?) ∧ R w S cs xs[k] := by
  obtain ⟨a', c', he, h1, h2, h3⟩ := h
  simp only [Value.slice.injEq, true_and] at he
  obtain ⟨rfl, rfl⟩ := he
  exact h3 k xs[k] (List.getElem?_eq_getElem hk)
theorem ListIs.shape {α : Type} {size : Nat} {R : World → (Nat → Prop) → List Value → α → Prop} {w : World} {S : Nat → Prop} {v : Value} {xs : List α} (h : ListIs size R w S v xs) : ∃ a c, v = .slice a xs.length c ∧ xs.length ≤ c := by
  obtain ⟨a, c, rfl, h1, -⟩ := h
  exact ⟨a, c, rfl, h1⟩
theorem ListIs.small {α : Type} {size : Nat} {R : World → (Nat → Prop) → List Value → α → Prop} {w : World} {S : Nat → Prop} {v : Value} {xs : List α} (h : ListIs size R w S v xs) : xs.length ≤ 9223372036854775807 := by
  obtain ⟨a, c, rfl, h1, h2, -⟩ := h
  unfold maxLen at h2
  omega
/-- A number. -/
def intIs (w : World) (S : Nat → Prop) (cs : List Value) (x : Int) : Prop := cs = [.int .i64 x] ∧ in64 x
theorem intIs.heap {w w' : World} {S S' : Nat → Prop} {cs : List Value} {x : Int} (h : intIs w S cs x) : intIs w' S' cs x := h
theorem flatMap_take {α : Type} (e : α → List UInt8) (xs : List α) (k : Nat) (hk : k < xs.length) : (xs.take (k + 1)).flatMap e = (xs.take k).flatMap e ++ e xs[k] := by
  rw [List.take_succ_eq_append_getElem hk, List.flatMap_append]
  simp
theorem flatMap_le {α : Type} (e : α → List UInt8) (xs : List α) (k : Nat) : ((xs.take k).flatMap e).length ≤ (xs.flatMap e).length := by
  have h : xs.flatMap e = (xs.take k).flatMap e ++ (xs.drop k).flatMap e := by rw [← List.flatMap_append, List.take_append_drop]
  rw [h, List.length_append]
  omega
/-- Grown once more. -/
theorem Grew.more {w w1 w2 : World} {v1 v2 : Value} {out m1 m2 : List UInt8} {g : Option Nat} (g1 : Option Nat) (hk1 : Kept (fun k => g = some k) w w1) (hg1 : ∀ k, g1 = some k → g = some k ∨ w.heap.size ≤ k) (h2 : Grew w1 w2 v2 (out ++ m1) g1 m2) : Grew w w2 v2 out g (m1 ++ m2) := by
  obtain ⟨g2, o2, k2, hg2⟩ := h2
  have h0 := hk1.size
  refine ⟨g2, by rw [← List.append_assoc]; exact o2, hk1.thn k2 (fun i hi => ?_), fun k hk => ?_⟩
  · rcases hg1 i hi with h | h
    · exact .inl h
    · exact .inr h
  · rcases hg2 k hk with h | h
    · exact hg1 k h
    · exact .inr (by omega)
/-- What stands in old blocks stays. -/
theorem Grew.old {w w' : World} {v : Value} {out m : List UInt8} {g : Option Nat} (h : Grew w w' v out g m) : ∀ k, k < w.heap.size → g ≠ some k → w'.heap[k]? = w.heap[k]? := by
  obtain ⟨g', -, hk, -⟩ := h
  exact fun k hl hg => hk.block k hl hg
/-- Where a writer stands: it has written 'more' behind 'out', L in all. -/
structure Out (w w' : World) (v : Value) (out : List UInt8) (g : Option Nat) (more L : List UInt8) (g' : Option Nat) : Prop where
  own : Own w' 5 1 v L.length (L.map bv) g'
  eq : L = out ++ more
  kept : Kept (fun k => g = some k) w w'
  new : ∀ k, g' = some k → g = some k ∨ w.heap.size ≤ k
theorem Out.start {w : World} {v : Value} {out : List UInt8} {g : Option Nat} (h : Own w 5 1 v out.length (out.map bv) g) : Out w w v out g [] out g :=
  ⟨h, by simp, Kept.refl _ _, fun k hk => .inl hk⟩
theorem Out.alloc {w w' : World} {v : Value} {out more L : List UInt8} {g g' : Option Nat} (h : Out w w' v out g more L g') (o : Obj) : Out w (w'.alloc o) v out g more L g' :=
  ⟨h.own.kept (Kept.alloc (fun _ => False) _ _) (fun _ _ h => h), h.eq, h.kept.al o, h.new⟩
theorem Out.then {w w1 w2 : World} {v1 v2 : Value} {out m1 m2 L1 : List UInt8} {g g1 : Option Nat} (h : Out w w1 v1 out g m1 L1 g1) (h2 : Grew w1 w2 v2 L1 g1 m2) : ∃ L2 g2, Out w w2 v2 out g (m1 ++ m2) L2 g2 := by
  obtain ⟨g2, o2, k2, hg2⟩ := h2
  have h0 := h.kept.size
  refine ⟨L1 ++ m2, g2, o2, by rw [h.eq, List.append_assoc], h.kept.thn k2 (fun i hi => ?_), fun k hk => ?_⟩
  · rcases h.new i hi with h | h
    · exact .inl h
    · exact .inr h
  · rcases hg2 k hk with h' | h'
    · exact h.new k h'
    · exact .inr (by omega)
theorem Out.done {w w' : World} {v : Value} {out more L : List UInt8} {g g' : Option Nat} (h : Out w w' v out g more L g') : Grew w w' v out g more :=
  ⟨g', by rw [← h.eq]; exact h.own, h.kept, h.new⟩
theorem Out.len {w w' : World} {v : Value} {out more L : List UInt8} {g g' : Option Nat} (h : Out w w' v out g more L g') : L.length = out.length + more.length := by
  rw [h.eq, List.length_append]
theorem Out.cast {w w' : World} {v : Value} {out more more' L : List UInt8} {g g' : Option Nat} (h : Out w w' v out g more L g') (e : more = more') : Out w w' v out g more' L g' := by rw [← e]; exact h
theorem Out.data {w w' : World} {v : Value} {out more L : List UInt8} {g g' : Option Nat} (h : Out w w' v out g more L g') {S : Nat → Prop} (hS : ∀ k, S k → k < w.heap.size ∧ g ≠ some k) : ∀ k, S k → w'.heap[k]? = w.heap[k]? :=
  fun k hk => h.kept.block k (hS k hk).1 (hS k hk).2
theorem encI_length (n : Int) : (encI n).length = 8 := leB_length 8 _
theorem bB_length (b : Bool) : (bB b).length = 1 := rfl
end Go.Proofs.YtmbjealliinpdaaGreat
end

section

namespace Go.Proofs.YtmbjealliinpdaaGreat
open Go.RowKit
structure OsdT where
  ex : Bool
  up : Bool
  weight : Int
  boot : Int
  upFrom : Int
  upThru : Int
def OsdT.Is (w : World) (S : Nat → Prop) (cs : List Value) (x : OsdT) : Prop := cs = [Value.bool x.ex, Value.bool x.up, Value.int IntKind.i64 x.weight, Value.int IntKind.i64 x.boot, Value.int IntKind.i64 x.upFrom, Value.int IntKind.i64 x.upThru] ∧ in64 x.weight ∧ in64 x.boot ∧ in64 x.upFrom ∧ in64 x.upThru
def OsdT.enc (x : OsdT) : List UInt8 := [] ++ bB x.ex ++ bB x.up ++ encI x.weight ++ encI x.boot ++ encI x.upFrom ++ encI x.upThru
theorem OsdT.Is.heap {w w' : World} {S S' : Nat → Prop} {cs : List Value} {x : OsdT} (h : OsdT.Is w S cs x) : OsdT.Is w' S' cs x := h
theorem putOsd_c {w : World} {v : Value} {out : List UInt8} {g : Option Nat} (h : Own w 5 1 v out.length (out.map bv) g) (x : OsdT) (hm : out.length + x.enc.length ≤ 140737488353500) :
    Calls Tryz.prog 113 #[v, .agg #[Value.bool x.ex, Value.bool x.up, Value.int IntKind.i64 x.weight, Value.int IntKind.i64 x.boot, Value.int IntKind.i64 x.upFrom, Value.int IntKind.i64 x.upThru]] w fun e w' => ∃ v', e = .returned v' ∧ Grew w w' v' out g x.enc := by
  simp only [OsdT.enc] at hm ⊢
  obtain ⟨a0, c0, rfl, -, -⟩ := h.shape
  go_enter Tryz.func113, Tryz.ntmps113
  go_wp2_with fail
  have x0 : (w.alloc (Obj.cells #[Value.bool x.ex, Value.bool x.up, Value.int IntKind.i64 x.weight, Value.int IntKind.i64 x.boot, Value.int IntKind.i64 x.upFrom, Value.int IntKind.i64 x.upThru] 208)).heap[w.heap.size]? = some (Obj.cells #[Value.bool x.ex, Value.bool x.up, Value.int IntKind.i64 x.weight, Value.int IntKind.i64 x.boot, Value.int IntKind.i64 x.upFrom, Value.int IntKind.i64 x.upThru] 208) := heap_alloc_new' _ _
  have S0 := (Out.start h).alloc (Obj.cells #[Value.bool x.ex, Value.bool x.up, Value.int IntKind.i64 x.weight, Value.int IntKind.i64 x.boot, Value.int IntKind.i64 x.upFrom, Value.int IntKind.i64 x.upThru] 208)
  generalize w.alloc (Obj.cells #[Value.bool x.ex, Value.bool x.up, Value.int IntKind.i64 x.weight, Value.int IntKind.i64 x.boot, Value.int IntKind.i64 x.upFrom, Value.int IntKind.i64 x.upThru] 208) = w0 at x0 S0 ⊢
  refine (boolRef_c S0.own x.ex (by have := S0.len; simp only [List.length_append, List.length_nil, encI_length, bB_length, leB_length] at this hm; omega)).mono ?_
  rintro e w1 ⟨v1, rfl, hG1⟩
  obtain ⟨L1, g1, S1⟩ := S0.then hG1
  obtain ⟨a1, c1, rfl, -, -⟩ := S1.own.shape
  have x1 : w1.heap[w.heap.size]? = some (Obj.cells #[Value.bool x.ex, Value.bool x.up, Value.int IntKind.i64 x.weight, Value.int IntKind.i64 x.boot, Value.int IntKind.i64 x.upFrom, Value.int IntKind.i64 x.upThru] 208) := (hG1.old _ (lt_in x0) (fun hh => S0.own.ne x0 (by decide) _ hh rfl)).trans x0
  have z1 : w1.cell? ⟨w.heap.size, 1, none⟩ = some (Value.bool x.up) := cell_in x1
  have lx := lt_in x1
  go_wp2_with fail
  clear z1 lx
  refine (boolRef_c S1.own x.up (by have := S1.len; simp only [List.length_append, List.length_nil, encI_length, bB_length, leB_length] at this hm; omega)).mono ?_
  rintro e w2 ⟨v2, rfl, hG2⟩
  obtain ⟨L2, g2, S2⟩ := S1.then hG2
  obtain ⟨a2, c2, rfl, -, -⟩ := S2.own.shape
  have x2 : w2.heap[w.heap.size]? = some (Obj.cells #[Value.bool x.ex, Value.bool x.up, Value.int IntKind.i64 x.weight, Value.int IntKind.i64 x.boot, Value.int IntKind.i64 x.upFrom, Value.int IntKind.i64 x.upThru] 208) := (hG2.old _ (lt_in x1) (fun hh => S1.own.ne x1 (by decide) _ hh rfl)).trans x1
  have z2 : w2.cell? ⟨w.heap.size, 2, none⟩ = some (Value.int IntKind.i64 x.weight) := cell_in x2
  have lx := lt_in x2
  go_wp2_with fail
  clear z2 lx
  refine (int_c S2.own x.weight (by have := S2.len; simp only [List.length_append, List.length_nil, encI_length, bB_length, leB_length] at this hm; omega)).mono ?_
  rintro e w3 ⟨v3, rfl, hG3⟩
  obtain ⟨L3, g3, S3⟩ := S2.then hG3
  obtain ⟨a3, c3, rfl, -, -⟩ := S3.own.shape
  have x3 : w3.heap[w.heap.size]? = some (Obj.cells #[Value.bool x.ex, Value.bool x.up, Value.int IntKind.i64 x.weight, Value.int IntKind.i64 x.boot, Value.int IntKind.i64 x.upFrom, Value.int IntKind.i64 x.upThru] 208) := (hG3.old _ (lt_in x2) (fun hh => S2.own.ne x2 (by decide) _ hh rfl)).trans x2
  have z3 : w3.cell? ⟨w.heap.size, 3, none⟩ = some (Value.int IntKind.i64 x.boot) := cell_in x3
  have lx := lt_in x3
  go_wp2_with fail
  clear z3 lx
  refine (int_c S3.own x.boot (by have := S3.len; simp only [List.length_append, List.length_nil, encI_length, bB_length, leB_length] at this hm; omega)).mono ?_
  rintro e w4 ⟨v4, rfl, hG4⟩
  obtain ⟨L4, g4, S4⟩ := S3.then hG4
  obtain ⟨a4, c4, rfl, -, -⟩ := S4.own.shape
  have x4 : w4.heap[w.heap.size]? = some (Obj.cells #[Value.bool x.ex, Value.bool x.up, Value.int IntKind.i64 x.weight, Value.int IntKind.i64 x.boot, Value.int IntKind.i64 x.upFrom, Value.int IntKind.i64 x.upThru] 208) := (hG4.old _ (lt_in x3) (fun hh => S3.own.ne x3 (by decide) _ hh rfl)).trans x3
  have z4 : w4.cell? ⟨w.heap.size, 4, none⟩ = some (Value.int IntKind.i64 x.upFrom) := cell_in x4
  have lx := lt_in x4
  go_wp2_with fail
  clear z4 lx
  refine (int_c S4.own x.upFrom (by have := S4.len; simp only [List.length_append, List.length_nil, encI_length, bB_length, leB_length] at this hm; omega)).mono ?_
  rintro e w5 ⟨v5, rfl, hG5⟩
  obtain ⟨L5, g5, S5⟩ := S4.then hG5
  obtain ⟨a5, c5, rfl, -, -⟩ := S5.own.shape
  have x5 : w5.heap[w.heap.size]? = some (Obj.cells #[Value.bool x.ex, Value.bool x.up, Value.int IntKind.i64 x.weight, Value.int IntKind.i64 x.boot, Value.int IntKind.i64 x.upFrom, Value.int IntKind.i64 x.upThru] 208) := (hG5.old _ (lt_in x4) (fun hh => S4.own.ne x4 (by decide) _ hh rfl)).trans x4
  have z5 : w5.cell? ⟨w.heap.size, 5, none⟩ = some (Value.int IntKind.i64 x.upThru) := cell_in x5
  have lx := lt_in x5
  go_wp2_with fail
  clear z5 lx
  refine (int_c S5.own x.upThru (by have := S5.len; simp only [List.length_append, List.length_nil, encI_length, bB_length, leB_length] at this hm; omega)).mono ?_
  rintro e w6 ⟨v6, rfl, hG6⟩
  obtain ⟨L6, g6, S6⟩ := S5.then hG6
  obtain ⟨a6, c6, rfl, -, -⟩ := S6.own.shape
  have x6 : w6.heap[w.heap.size]? = some (Obj.cells #[Value.bool x.ex, Value.bool x.up, Value.int IntKind.i64 x.weight, Value.int IntKind.i64 x.boot, Value.int IntKind.i64 x.upFrom, Value.int IntKind.i64 x.upThru] 208) := (hG6.old _ (lt_in x5) (fun hh => S5.own.ne x5 (by decide) _ hh rfl)).trans x5
  go_wp2
  go_ret
  exact ⟨_, rfl, S6.done⟩
structure PoolT where
  id : Int
  size : Int
  min : Int
  pgs : Int
def PoolT.Is (w : World) (S : Nat → Prop) (cs : List Value) (x : PoolT) : Prop := cs = [Value.int IntKind.i64 x.id, Value.int IntKind.i64 x.size, Value.int IntKind.i64 x.min, Value.int IntKind.i64 x.pgs] ∧ in64 x.id ∧ in64 x.size ∧ in64 x.min ∧ in64 x.pgs
def PoolT.enc (x : PoolT) : List UInt8 := [] ++ encI x.id ++ encI x.size ++ encI x.min ++ encI x.pgs
theorem PoolT.Is.heap {w w' : World} {S S' : Nat → Prop} {cs : List Value} {x : PoolT} (h : PoolT.Is w S cs x) : PoolT.Is w' S' cs x := h
theorem putPool_c {w : World} {v : Value} {out : List UInt8} {g : Option Nat} (h : Own w 5 1 v out.length (out.map bv) g) (x : PoolT) (hm : out.length + x.enc.length ≤ 140737488353500) :
    Calls Tryz.prog 114 #[v, .agg #[Value.int IntKind.i64 x.id, Value.int IntKind.i64 x.size, Value.int IntKind.i64 x.min, Value.int IntKind.i64 x.pgs]] w fun e w' => ∃ v', e = .returned v' ∧ Grew w w' v' out g x.enc := by
  simp only [PoolT.enc] at hm ⊢
  obtain ⟨a0, c0, rfl, -, -⟩ := h.shape
  go_enter Tryz.func114, Tryz.ntmps114
  go_wp2_with fail
  have x0 : (w.alloc (Obj.cells #[Value.int IntKind.i64 x.id, Value.int IntKind.i64 x.size, Value.int IntKind.i64 x.min, Value.int IntKind.i64 x.pgs] 156)).heap[w.heap.size]? = some (Obj.cells #[Value.int IntKind.i64 x.id, Value.int IntKind.i64 x.size, Value.int IntKind.i64 x.min, Value.int IntKind.i64 x.pgs] 156) := heap_alloc_new' _ _
  have S0 := (Out.start h).alloc (Obj.cells #[Value.int IntKind.i64 x.id, Value.int IntKind.i64 x.size, Value.int IntKind.i64 x.min, Value.int IntKind.i64 x.pgs] 156)
  generalize w.alloc (Obj.cells #[Value.int IntKind.i64 x.id, Value.int IntKind.i64 x.size, Value.int IntKind.i64 x.min, Value.int IntKind.i64 x.pgs] 156) = w0 at x0 S0 ⊢
  refine (int_c S0.own x.id (by have := S0.len; simp only [List.length_append, List.length_nil, encI_length, bB_length, leB_length] at this hm; omega)).mono ?_
  rintro e w1 ⟨v1, rfl, hG1⟩
  obtain ⟨L1, g1, S1⟩ := S0.then hG1
  obtain ⟨a1, c1, rfl, -, -⟩ := S1.own.shape
  have x1 : w1.heap[w.heap.size]? = some (Obj.cells #[Value.int IntKind.i64 x.id, Value.int IntKind.i64 x.size, Value.int IntKind.i64 x.min, Value.int IntKind.i64 x.pgs] 156) := (hG1.old _ (lt_in x0) (fun hh => S0.own.ne x0 (by decide) _ hh rfl)).trans x0
  have z1 : w1.cell? ⟨w.heap.size, 1, none⟩ = some (Value.int IntKind.i64 x.size) := cell_in x1
  have lx := lt_in x1
  go_wp2_with fail
  clear z1 lx
  refine (int_c S1.own x.size (by have := S1.len; simp only [List.length_append, List.length_nil, encI_length, bB_length, leB_length] at this hm; omega)).mono ?_
  rintro e w2 ⟨v2, rfl, hG2⟩
  obtain ⟨L2, g2, S2⟩ := S1.then hG2
  obtain ⟨a2, c2, rfl, -, -⟩ := S2.own.shape
  have x2 : w2.heap[w.heap.size]? = some (Obj.cells #[Value.int IntKind.i64 x.id, Value.int IntKind.i64 x.size, Value.int IntKind.i64 x.min, Value.int IntKind.i64 x.pgs] 156) := (hG2.old _ (lt_in x1) (fun hh => S1.own.ne x1 (by decide) _ hh rfl)).trans x1
  have z2 : w2.cell? ⟨w.heap.size, 2, none⟩ = some (Value.int IntKind.i64 x.min) := cell_in x2
  have lx := lt_in x2
  go_wp2_with fail
  clear z2 lx
  refine (int_c S2.own x.min (by have := S2.len; simp only [List.length_append, List.length_nil, encI_length, bB_length, leB_length] at this hm; omega)).mono ?_
  rintro e w3 ⟨v3, rfl, hG3⟩
  obtain ⟨L3, g3, S3⟩ := S2.then hG3
  obtain ⟨a3, c3, rfl, -, -⟩ := S3.own.shape
  have x3 : w3.heap[w.heap.size]? = some (Obj.cells #[Value.int IntKind.i64 x.id, Value.int IntKind.i64 x.size, Value.int IntKind.i64 x.min, Value.int IntKind.i64 x.pgs] 156) := (hG3.old _ (lt_in x2) (fun hh => S2.own.ne x2 (by decide) _ hh rfl)).trans x2
  have z3 : w3.cell? ⟨w.heap.size, 3, none⟩ = some (Value.int IntKind.i64 x.pgs) := cell_in x3
  have lx := lt_in x3
  go_wp2_with fail
  clear z3 lx
  refine (int_c S3.own x.pgs (by have := S3.len; simp only [List.length_append, List.length_nil, encI_length, bB_length, leB_length] at this hm; omega)).mono ?_
  rintro e w4 ⟨v4, rfl, hG4⟩
  obtain ⟨L4, g4, S4⟩ := S3.then hG4
  obtain ⟨a4, c4, rfl, -, -⟩ := S4.own.shape
  have x4 : w4.heap[w.heap.size]? = some (Obj.cells #[Value.int IntKind.i64 x.id, Value.int IntKind.i64 x.size, Value.int IntKind.i64 x.min, Value.int IntKind.i64 x.pgs] 156) := (hG4.old _ (lt_in x3) (fun hh => S3.own.ne x3 (by decide) _ hh rfl)).trans x3
  go_wp2
  go_ret
  exact ⟨_, rfl, S4.done⟩
structure BucketT where
  id : Int
  kind : Int
  items : List Int
  weights : List Int
def BucketT.Is (w : World) (S : Nat → Prop) (cs : List Value) (x : BucketT) : Prop := ∃ v_items v_weights : Value, cs = [Value.int IntKind.i64 x.id, Value.int IntKind.i64 x.kind, v_items, v_weights] ∧ in64 x.id ∧ in64 x.kind ∧ ListIs 1 intIs w S v_items x.items ∧ ListIs 1 intIs w S v_weights x.weights
def BucketT.enc (x : BucketT) : List UInt8 := [] ++ encI x.id ++ encI x.kind ++ leB 4 x.items.length ++ x.items.flatMap encI ++ leB 4 x.weights.length ++ x.weights.flatMap encI
theorem BucketT.Is.heap {w w' : World} {S S' : Nat → Prop} {cs : List Value} {x : BucketT} (h : BucketT.Is w S cs x) (hS : ∀ k, S k → S' k) (hk : ∀ k, S k → w'.heap[k]? = w.heap[k]?) : BucketT.Is w' S' cs x := by
  obtain ⟨v_items, v_weights, rfl, i0, i1, l0, l1⟩ := h
  exact ⟨v_items, v_weights, rfl, i0, i1, l0.heap (fun _ _ h => intIs.heap h) hS hk, l1.heap (fun _ _ h => intIs.heap h) hS hk⟩
theorem putBucket_c {w : World} {v : Value} {out : List UInt8} {g : Option Nat} (h : Own w 5 1 v out.length (out.map bv) g) {S : Nat → Prop} (hS : ∀ k, S k → k < w.heap.size ∧ g ≠ some k) (x : BucketT) {cs : List Value} (hx : BucketT.Is w S cs x) (hm : out.length + x.enc.length ≤ 140737488353500) :
    Calls Tryz.prog 115 #[v, .agg cs.toArray] w fun e w' => ∃ v', e = .returned v' ∧ Grew w w' v' out g x.enc := by
  obtain ⟨v_items, v_weights, rfl, i0, i1, l0, l1⟩ := hx
  obtain ⟨a_v_items, c_v_items, rfl, -⟩ := l0.shape
  obtain ⟨a_v_weights, c_v_weights, rfl, -⟩ := l1.shape
  simp only [BucketT.enc] at hm ⊢
  obtain ⟨a0, c0, rfl, -, -⟩ := h.shape
  go_enter Tryz.func115, Tryz.ntmps115
  go_wp2_with fail
  have x0 : (w.alloc (Obj.cells #[Value.int IntKind.i64 x.id, Value.int IntKind.i64 x.kind, Value.slice a_v_items x.items.length c_v_items, Value.slice a_v_weights x.weights.length c_v_weights] 159)).heap[w.heap.size]? = some (Obj.cells #[Value.int IntKind.i64 x.id, Value.int IntKind.i64 x.kind, Value.slice a_v_items x.items.length c_v_items, Value.slice a_v_weights x.weights.length c_v_weights] 159) := heap_alloc_new' _ _
  have S0 := (Out.start h).alloc (Obj.cells #[Value.int IntKind.i64 x.id, Value.int IntKind.i64 x.kind, Value.slice a_v_items x.items.length c_v_items, Value.slice a_v_weights x.weights.length c_v_weights] 159)
  generalize w.alloc (Obj.cells #[Value.int IntKind.i64 x.id, Value.int IntKind.i64 x.kind, Value.slice a_v_items x.items.length c_v_items, Value.slice a_v_weights x.weights.length c_v_weights] 159) = w0 at x0 S0 ⊢
  refine (int_c S0.own x.id (by have := S0.len; simp only [List.length_append, List.length_nil, encI_length, bB_length, leB_length] at this hm; omega)).mono ?_
  rintro e w1 ⟨v1, rfl, hG1⟩
  obtain ⟨L1, g1, S1⟩ := S0.then hG1
  obtain ⟨a1, c1, rfl, -, -⟩ := S1.own.shape
  have x1 : w1.heap[w.heap.size]? = some (Obj.cells #[Value.int IntKind.i64 x.id, Value.int IntKind.i64 x.kind, Value.slice a_v_items x.items.length c_v_items, Value.slice a_v_weights x.weights.length c_v_weights] 159) := (hG1.old _ (lt_in x0) (fun hh => S0.own.ne x0 (by decide) _ hh rfl)).trans x0
  have z1 : w1.cell? ⟨w.heap.size, 1, none⟩ = some (Value.int IntKind.i64 x.kind) := cell_in x1
  have lx := lt_in x1
  go_wp2_with fail
  clear z1 lx
  refine (int_c S1.own x.kind (by have := S1.len; simp only [List.length_append, List.length_nil, encI_length, bB_length, leB_length] at this hm; omega)).mono ?_
  rintro e w2 ⟨v2, rfl, hG2⟩
  obtain ⟨L2, g2, S2⟩ := S1.then hG2
  obtain ⟨a2, c2, rfl, -, -⟩ := S2.own.shape
  have x2 : w2.heap[w.heap.size]? = some (Obj.cells #[Value.int IntKind.i64 x.id, Value.int IntKind.i64 x.kind, Value.slice a_v_items x.items.length c_v_items, Value.slice a_v_weights x.weights.length c_v_weights] 159) := (hG2.old _ (lt_in x1) (fun hh => S1.own.ne x1 (by decide) _ hh rfl)).trans x1
  have z2 : w2.cell? ⟨w.heap.size, 2, none⟩ = some (Value.slice a_v_items x.items.length c_v_items) := cell_in x2
  have lx := lt_in x2
  go_wp2_with fail
  clear z2 lx
  refine (countRef_c S2.own x.items.length (by have := S2.len; simp only [List.length_append, List.length_nil, encI_length, bB_length, leB_length] at this hm; omega)).mono ?_
  rintro e w3 ⟨v3, rfl, hG3⟩
  obtain ⟨L3, g3, S3⟩ := S2.then hG3
  obtain ⟨a3, c3, rfl, -, -⟩ := S3.own.shape
  have x3 : w3.heap[w.heap.size]? = some (Obj.cells #[Value.int IntKind.i64 x.id, Value.int IntKind.i64 x.kind, Value.slice a_v_items x.items.length c_v_items, Value.slice a_v_weights x.weights.length c_v_weights] 159) := (hG3.old _ (lt_in x2) (fun hh => S2.own.ne x2 (by decide) _ hh rfl)).trans x2
  have z2 : w3.cell? ⟨w.heap.size, 2, none⟩ = some (Value.slice a_v_items x.items.length c_v_items) := cell_in x3
  have lx := lt_in x3
  go_wp2
  clear z2 lx
  go_loopw [25, 0] (fun i o w' => ∃ (k : Nat) (L : List UInt8) (gL : Option Nat), k ≤ x.items.length ∧ i = .int .i64 k ∧ Out w w' o out g (([] ++ encI x.id ++ encI x.kind ++ leB 4 x.items.length) ++ (x.items.take k).flatMap encI) L gL ∧ w'.heap[w.heap.size]? = some (Obj.cells #[Value.int IntKind.i64 x.id, Value.int IntKind.i64 x.kind, Value.slice a_v_items x.items.length c_v_items, Value.slice a_v_weights x.weights.length c_v_weights] 159)) (fun i _ _ => x.items.length - (intOf i).toNat)
  case atStart => exact ⟨0, L3, g3, by omega, rfl, S3.cast (by simp), x3⟩
  case round =>
    obtain ⟨k, L, gL, hk, rfl, SL, xl⟩ := hrel
    by_cases hk2 : k < x.items.length
    · have hki : (k : Int) < (x.items.length : Int) := by omega
      have hnl : x.items.length ≤ 9223372036854775807 := l0.small
      have hd := SL.data hS
      obtain ⟨b, off, cs, rfl, hb, hcl, hcell, hr⟩ := (l0.heap (fun _ _ h => intIs.heap h) (fun _ h => h) hd).at hk2
      have hfl := flatMap_le encI x.items (k + 1)
      have hft := flatMap_take encI x.items k hk2
      rw [hft, List.length_append] at hfl
      obtain ⟨e, he⟩ : ∃ e, e = x.items[k] := ⟨_, rfl⟩
      rw [← he] at hr hft hfl
      have HFT := Lib.hid hft
      clear hft he hcl
      obtain ⟨aL, cL, rfl, -, -⟩ := SL.own.shape
      obtain ⟨rfl, -⟩ := hr
      have y0 := hcell 0 (by omega)
      simp only [Nat.mul_one, Nat.add_zero, List.getElem?_cons_zero] at y0
      go_wp2_with fail
      refine (int_c SL.own e (by have := SL.len; simp only [List.length_append, List.length_nil, encI_length, bB_length, leB_length] at this hm hfl; omega)).mono ?_
      rintro _ w9 ⟨v9, rfl, hG⟩
      obtain ⟨L9, g9, S9⟩ := SL.then hG
      have xl9 : w9.heap[w.heap.size]? = _ := (hG.old _ (lt_in xl) (fun hh => SL.own.ne xl (by decide) _ hh rfl)).trans xl
      obtain ⟨a9, c9, rfl, -, -⟩ := S9.own.shape
      have X9 := Lib.hid xl9
      have HS9 := Lib.hid (S9.cast (more' := ([] ++ encI x.id ++ encI x.kind ++ leB 4 x.items.length) ++ (x.items.take (k + 1)).flatMap encI) (by rw [HFT.out, List.append_assoc]))
      clear xl9 S9 hG
      go_wp2
      exact ⟨⟨k + 1, L9, g9, by omega, by simp, HS9.out, X9.out⟩, by simp [intOf]; omega⟩
    · obtain rfl : k = x.items.length := by omega
      have S4 : Out w wr _ out g (([] ++ encI x.id ++ encI x.kind ++ leB 4 x.items.length) ++ x.items.flatMap encI) L gL := SL.cast (by rw [List.take_length])
      obtain ⟨a4, c4, rfl, -, -⟩ := S4.own.shape
      have x4 := xl
      rename World => w4
      clear SL xl
      have z3 : w4.cell? ⟨w.heap.size, 3, none⟩ = some (Value.slice a_v_weights x.weights.length c_v_weights) := cell_in x4
      have lx := lt_in x4
      go_wp2_with fail
      clear z3 lx
      refine (countRef_c S4.own x.weights.length (by have := S4.len; simp only [List.length_append, List.length_nil, encI_length, bB_length, leB_length] at this hm; omega)).mono ?_
      rintro e w5 ⟨v5, rfl, hG5⟩
      obtain ⟨L5, g5, S5⟩ := S4.then hG5
      obtain ⟨a5, c5, rfl, -, -⟩ := S5.own.shape
      have x5 : w5.heap[w.heap.size]? = some (Obj.cells #[Value.int IntKind.i64 x.id, Value.int IntKind.i64 x.kind, Value.slice a_v_items x.items.length c_v_items, Value.slice a_v_weights x.weights.length c_v_weights] 159) := (hG5.old _ (lt_in x4) (fun hh => S4.own.ne x4 (by decide) _ hh rfl)).trans x4
      have z3 : w5.cell? ⟨w.heap.size, 3, none⟩ = some (Value.slice a_v_weights x.weights.length c_v_weights) := cell_in x5
      have lx := lt_in x5
      go_wp2
      clear z3 lx
      go_loopw [41, 0] (fun i o w' => ∃ (k : Nat) (L : List UInt8) (gL : Option Nat), k ≤ x.weights.length ∧ i = .int .i64 k ∧ Out w w' o out g (([] ++ encI x.id ++ encI x.kind ++ leB 4 x.items.length ++ x.items.flatMap encI ++ leB 4 x.weights.length) ++ (x.weights.take k).flatMap encI) L gL ∧ w'.heap[w.heap.size]? = some (Obj.cells #[Value.int IntKind.i64 x.id, Value.int IntKind.i64 x.kind, Value.slice a_v_items x.items.length c_v_items, Value.slice a_v_weights x.weights.length c_v_weights] 159)) (fun i _ _ => x.weights.length - (intOf i).toNat)
      case atStart => exact ⟨0, L5, g5, by omega, rfl, S5.cast (by simp), x5⟩
      case round =>
        obtain ⟨k, L, gL, hk, rfl, SL, xl⟩ := hrel
        by_cases hk2 : k < x.weights.length
        · have hki : (k : Int) < (x.weights.length : Int) := by omega
          have hnl : x.weights.length ≤ 9223372036854775807 := l1.small
          have hd := SL.data hS
          obtain ⟨b, off, cs, rfl, hb, hcl, hcell, hr⟩ := (l1.heap (fun _ _ h => intIs.heap h) (fun _ h => h) hd).at hk2
          have hfl := flatMap_le encI x.weights (k + 1)
          have hft := flatMap_take encI x.weights k hk2
          rw [hft, List.length_append] at hfl
          obtain ⟨e, he⟩ : ∃ e, e = x.weights[k] := ⟨_, rfl⟩
          rw [← he] at hr hft hfl
          have HFT := Lib.hid hft
          clear hft he hcl
          obtain ⟨aL, cL, rfl, -, -⟩ := SL.own.shape
          obtain ⟨rfl, -⟩ := hr
          have y0 := hcell 0 (by omega)
          simp only [Nat.mul_one, Nat.add_zero, List.getElem?_cons_zero] at y0
          go_wp2_with fail
          refine (int_c SL.own e (by have := SL.len; simp only [List.length_append, List.length_nil, encI_length, bB_length, leB_length] at this hm hfl; omega)).mono ?_
          rintro _ w9 ⟨v9, rfl, hG⟩
          obtain ⟨L9, g9, S9⟩ := SL.then hG
          have xl9 : w9.heap[w.heap.size]? = _ := (hG.old _ (lt_in xl) (fun hh => SL.own.ne xl (by decide) _ hh rfl)).trans xl
          obtain ⟨a9, c9, rfl, -, -⟩ := S9.own.shape
          have X9 := Lib.hid xl9
          have HS9 := Lib.hid (S9.cast (more' := ([] ++ encI x.id ++ encI x.kind ++ leB 4 x.items.length ++ x.items.flatMap encI ++ leB 4 x.weights.length) ++ (x.weights.take (k + 1)).flatMap encI) (by rw [HFT.out, List.append_assoc]))
          clear xl9 S9 hG
          go_wp2
          exact ⟨⟨k + 1, L9, g9, by omega, by simp, HS9.out, X9.out⟩, by simp [intOf]; omega⟩
        · obtain rfl : k = x.weights.length := by omega
          have S6 : Out w wr _ out g (([] ++ encI x.id ++ encI x.kind ++ leB 4 x.items.length ++ x.items.flatMap encI ++ leB 4 x.weights.length) ++ x.weights.flatMap encI) L gL := SL.cast (by rw [List.take_length])
          obtain ⟨a6, c6, rfl, -, -⟩ := S6.own.shape
          have x6 := xl
          rename World => w6
          clear SL xl
          go_wp2
          go_ret
          exact ⟨_, rfl, S6.done⟩
structure ChangeT where
  kind : Int
  osd : Int
  value : Int
  pool : PoolT
  bucket : BucketT
def ChangeT.Is (w : World) (S : Nat → Prop) (cs : List Value) (x : ChangeT) : Prop := ∃ v_bucket_items v_bucket_weights : Value, cs = [Value.int IntKind.i64 x.kind, Value.int IntKind.i64 x.osd, Value.int IntKind.i64 x.value, Value.int IntKind.i64 x.pool.id, Value.int IntKind.i64 x.pool.size, Value.int IntKind.i64 x.pool.min, Value.int IntKind.i64 x.pool.pgs, Value.int IntKind.i64 x.bucket.id, Value.int IntKind.i64 x.bucket.kind, v_bucket_items, v_bucket_weights] ∧ in64 x.kind ∧ in64 x.osd ∧ in64 x.value ∧ in64 x.pool.id ∧ in64 x.pool.size ∧ in64 x.pool.min ∧ in64 x.pool.pgs ∧ in64 x.bucket.id ∧ in64 x.bucket.kind ∧ ListIs 1 intIs w S v_bucket_items x.bucket.items ∧ ListIs 1 intIs w S v_bucket_weights x.bucket.weights
def ChangeT.enc (x : ChangeT) : List UInt8 := [] ++ encI x.kind ++ encI x.osd ++ encI x.value ++ x.pool.enc ++ x.bucket.enc
theorem ChangeT.Is.heap {w w' : World} {S S' : Nat → Prop} {cs : List Value} {x : ChangeT} (h : ChangeT.Is w S cs x) (hS : ∀ k, S k → S' k) (hk : ∀ k, S k → w'.heap[k]? = w.heap[k]?) : ChangeT.Is w' S' cs x := by
  obtain ⟨v_bucket_items, v_bucket_weights, rfl, i0, i1, i2, i3, i4, i5, i6, i7, i8, l0, l1⟩ := h
  exact ⟨v_bucket_items, v_bucket_weights, rfl, i0, i1, i2, i3, i4, i5, i6, i7, i8, l0.heap (fun _ _ h => intIs.heap h) hS hk, l1.heap (fun _ _ h => intIs.heap h) hS hk⟩
theorem putChange_c {w : World} {v : Value} {out : List UInt8} {g : Option Nat} (h : Own w 5 1 v out.length (out.map bv) g) {S : Nat → Prop} (hS : ∀ k, S k → k < w.heap.size ∧ g ≠ some k) (x : ChangeT) {cs : List Value} (hx : ChangeT.Is w S cs x) (hm : out.length + x.enc.length ≤ 140737488353500) :
    Calls Tryz.prog 95 #[v, .agg cs.toArray] w fun e w' => ∃ v', e = .returned v' ∧ Grew w w' v' out g x.enc := by
  obtain ⟨v_bucket_items, v_bucket_weights, rfl, i0, i1, i2, i3, i4, i5, i6, i7, i8, l0, l1⟩ := hx
  obtain ⟨a_v_bucket_items, c_v_bucket_items, rfl, -⟩ := l0.shape
  obtain ⟨a_v_bucket_weights, c_v_bucket_weights, rfl, -⟩ := l1.shape
  simp only [ChangeT.enc] at hm ⊢
  obtain ⟨a0, c0, rfl, -, -⟩ := h.shape
  go_enter Tryz.func95, Tryz.ntmps95
  go_wp2_with fail
  have x0 : (w.alloc (Obj.cells #[Value.int IntKind.i64 x.kind, Value.int IntKind.i64 x.osd, Value.int IntKind.i64 x.value, Value.int IntKind.i64 x.pool.id, Value.int IntKind.i64 x.pool.size, Value.int IntKind.i64 x.pool.min, Value.int IntKind.i64 x.pool.pgs, Value.int IntKind.i64 x.bucket.id, Value.int IntKind.i64 x.bucket.kind, Value.slice a_v_bucket_items x.bucket.items.length c_v_bucket_items, Value.slice a_v_bucket_weights x.bucket.weights.length c_v_bucket_weights] 161)).heap[w.heap.size]? = some (Obj.cells #[Value.int IntKind.i64 x.kind, Value.int IntKind.i64 x.osd, Value.int IntKind.i64 x.value, Value.int IntKind.i64 x.pool.id, Value.int IntKind.i64 x.pool.size, Value.int IntKind.i64 x.pool.min, Value.int IntKind.i64 x.pool.pgs, Value.int IntKind.i64 x.bucket.id, Value.int IntKind.i64 x.bucket.kind, Value.slice a_v_bucket_items x.bucket.items.length c_v_bucket_items, Value.slice a_v_bucket_weights x.bucket.weights.length c_v_bucket_weights] 161) := heap_alloc_new' _ _
  have S0 := (Out.start h).alloc (Obj.cells #[Value.int IntKind.i64 x.kind, Value.int IntKind.i64 x.osd, Value.int IntKind.i64 x.value, Value.int IntKind.i64 x.pool.id, Value.int IntKind.i64 x.pool.size, Value.int IntKind.i64 x.pool.min, Value.int IntKind.i64 x.pool.pgs, Value.int IntKind.i64 x.bucket.id, Value.int IntKind.i64 x.bucket.kind, Value.slice a_v_bucket_items x.bucket.items.length c_v_bucket_items, Value.slice a_v_bucket_weights x.bucket.weights.length c_v_bucket_weights] 161)
  generalize w.alloc (Obj.cells #[Value.int IntKind.i64 x.kind, Value.int IntKind.i64 x.osd, Value.int IntKind.i64 x.value, Value.int IntKind.i64 x.pool.id, Value.int IntKind.i64 x.pool.size, Value.int IntKind.i64 x.pool.min, Value.int IntKind.i64 x.pool.pgs, Value.int IntKind.i64 x.bucket.id, Value.int IntKind.i64 x.bucket.kind, Value.slice a_v_bucket_items x.bucket.items.length c_v_bucket_items, Value.slice a_v_bucket_weights x.bucket.weights.length c_v_bucket_weights] 161) = w0 at x0 S0 ⊢
  refine (int_c S0.own x.kind (by have := S0.len; simp only [List.length_append, List.length_nil, encI_length, bB_length, leB_length] at this hm; omega)).mono ?_
  rintro e w1 ⟨v1, rfl, hG1⟩
  obtain ⟨L1, g1, S1⟩ := S0.then hG1
  obtain ⟨a1, c1, rfl, -, -⟩ := S1.own.shape
  have x1 : w1.heap[w.heap.size]? = some (Obj.cells #[Value.int IntKind.i64 x.kind, Value.int IntKind.i64 x.osd, Value.int IntKind.i64 x.value, Value.int IntKind.i64 x.pool.id, Value.int IntKind.i64 x.pool.size, Value.int IntKind.i64 x.pool.min, Value.int IntKind.i64 x.pool.pgs, Value.int IntKind.i64 x.bucket.id, Value.int IntKind.i64 x.bucket.kind, Value.slice a_v_bucket_items x.bucket.items.length c_v_bucket_items, Value.slice a_v_bucket_weights x.bucket.weights.length c_v_bucket_weights] 161) := (hG1.old _ (lt_in x0) (fun hh => S0.own.ne x0 (by decide) _ hh rfl)).trans x0
  have z1 : w1.cell? ⟨w.heap.size, 1, none⟩ = some (Value.int IntKind.i64 x.osd) := cell_in x1
  have lx := lt_in x1
  go_wp2_with fail
  clear z1 lx
  refine (int_c S1.own x.osd (by have := S1.len; simp only [List.length_append, List.length_nil, encI_length, bB_length, leB_length] at this hm; omega)).mono ?_
  rintro e w2 ⟨v2, rfl, hG2⟩
  obtain ⟨L2, g2, S2⟩ := S1.then hG2
  obtain ⟨a2, c2, rfl, -, -⟩ := S2.own.shape
  have x2 : w2.heap[w.heap.size]? = some (Obj.cells #[Value.int IntKind.i64 x.kind, Value.int IntKind.i64 x.osd, Value.int IntKind.i64 x.value, Value.int IntKind.i64 x.pool.id, Value.int IntKind.i64 x.pool.size, Value.int IntKind.i64 x.pool.min, Value.int IntKind.i64 x.pool.pgs, Value.int IntKind.i64 x.bucket.id, Value.int IntKind.i64 x.bucket.kind, Value.slice a_v_bucket_items x.bucket.items.length c_v_bucket_items, Value.slice a_v_bucket_weights x.bucket.weights.length c_v_bucket_weights] 161) := (hG2.old _ (lt_in x1) (fun hh => S1.own.ne x1 (by decide) _ hh rfl)).trans x1
  have z2 : w2.cell? ⟨w.heap.size, 2, none⟩ = some (Value.int IntKind.i64 x.value) := cell_in x2
  have lx := lt_in x2
  go_wp2_with fail
  clear z2 lx
  refine (int_c S2.own x.value (by have := S2.len; simp only [List.length_append, List.length_nil, encI_length, bB_length, leB_length] at this hm; omega)).mono ?_
  rintro e w3 ⟨v3, rfl, hG3⟩
  obtain ⟨L3, g3, S3⟩ := S2.then hG3
  obtain ⟨a3, c3, rfl, -, -⟩ := S3.own.shape
  have x3 : w3.heap[w.heap.size]? = some (Obj.cells #[Value.int IntKind.i64 x.kind, Value.int IntKind.i64 x.osd, Value.int IntKind.i64 x.value, Value.int IntKind.i64 x.pool.id, Value.int IntKind.i64 x.pool.size, Value.int IntKind.i64 x.pool.min, Value.int IntKind.i64 x.pool.pgs, Value.int IntKind.i64 x.bucket.id, Value.int IntKind.i64 x.bucket.kind, Value.slice a_v_bucket_items x.bucket.items.length c_v_bucket_items, Value.slice a_v_bucket_weights x.bucket.weights.length c_v_bucket_weights] 161) := (hG3.old _ (lt_in x2) (fun hh => S2.own.ne x2 (by decide) _ hh rfl)).trans x2
  have z3 : w3.cell? ⟨w.heap.size, 3, none⟩ = some (Value.int IntKind.i64 x.pool.id) := cell_in x3
  have z4 : w3.cell? ⟨w.heap.size, 4, none⟩ = some (Value.int IntKind.i64 x.pool.size) := cell_in x3
  have z5 : w3.cell? ⟨w.heap.size, 5, none⟩ = some (Value.int IntKind.i64 x.pool.min) := cell_in x3
  have z6 : w3.cell? ⟨w.heap.size, 6, none⟩ = some (Value.int IntKind.i64 x.pool.pgs) := cell_in x3
  have lx := lt_in x3
  go_wp2_with fail
  clear z3 z4 z5 z6 lx
  refine (putPool_c S3.own x.pool (by have := S3.len; simp only [List.length_append, List.length_nil, encI_length, bB_length, leB_length] at this hm; omega)).mono ?_
  rintro e w4 ⟨v4, rfl, hG4⟩
  obtain ⟨L4, g4, S4⟩ := S3.then hG4
  obtain ⟨a4, c4, rfl, -, -⟩ := S4.own.shape
  have x4 : w4.heap[w.heap.size]? = some (Obj.cells #[Value.int IntKind.i64 x.kind, Value.int IntKind.i64 x.osd, Value.int IntKind.i64 x.value, Value.int IntKind.i64 x.pool.id, Value.int IntKind.i64 x.pool.size, Value.int IntKind.i64 x.pool.min, Value.int IntKind.i64 x.pool.pgs, Value.int IntKind.i64 x.bucket.id, Value.int IntKind.i64 x.bucket.kind, Value.slice a_v_bucket_items x.bucket.items.length c_v_bucket_items, Value.slice a_v_bucket_weights x.bucket.weights.length c_v_bucket_weights] 161) := (hG4.old _ (lt_in x3) (fun hh => S3.own.ne x3 (by decide) _ hh rfl)).trans x3
  have z7 : w4.cell? ⟨w.heap.size, 7, none⟩ = some (Value.int IntKind.i64 x.bucket.id) := cell_in x4
  have z8 : w4.cell? ⟨w.heap.size, 8, none⟩ = some (Value.int IntKind.i64 x.bucket.kind) := cell_in x4
  have z9 : w4.cell? ⟨w.heap.size, 9, none⟩ = some (Value.slice a_v_bucket_items x.bucket.items.length c_v_bucket_items) := cell_in x4
  have z10 : w4.cell? ⟨w.heap.size, 10, none⟩ = some (Value.slice a_v_bucket_weights x.bucket.weights.length c_v_bucket_weights) := cell_in x4
  have lx := lt_in x4
  go_wp2_with fail
  clear z7 z8 z9 z10 lx
  have hd4 := S4.data hS
  have hx4 : BucketT.Is w4 S [Value.int IntKind.i64 x.bucket.id, Value.int IntKind.i64 x.bucket.kind, Value.slice a_v_bucket_items x.bucket.items.length c_v_bucket_items, Value.slice a_v_bucket_weights x.bucket.weights.length c_v_bucket_weights] x.bucket := ⟨_, _, rfl, i7, i8, l0.heap (fun _ _ h => intIs.heap h) (fun _ h => h) hd4, l1.heap (fun _ _ h => intIs.heap h) (fun _ h => h) hd4⟩
  refine (putBucket_c (S := S) S4.own (fun k hk => ⟨Nat.lt_of_lt_of_le (hS k hk).1 S4.kept.size, fun hh => by rcases S4.new k hh with h' | h'; exact (hS k hk).2 h'; exact absurd (hS k hk).1 (by omega)⟩) x.bucket hx4 (by have := S4.len; simp only [List.length_append, List.length_nil, encI_length, bB_length, leB_length] at this hm; omega)).mono ?_
  rintro e w5 ⟨v5, rfl, hG5⟩
  obtain ⟨L5, g5, S5⟩ := S4.then hG5
  obtain ⟨a5, c5, rfl, -, -⟩ := S5.own.shape
  have x5 : w5.heap[w.heap.size]? = some (Obj.cells #[Value.int IntKind.i64 x.kind, Value.int IntKind.i64 x.osd, Value.int IntKind.i64 x.value, Value.int IntKind.i64 x.pool.id, Value.int IntKind.i64 x.pool.size, Value.int IntKind.i64 x.pool.min, Value.int IntKind.i64 x.pool.pgs, Value.int IntKind.i64 x.bucket.id, Value.int IntKind.i64 x.bucket.kind, Value.slice a_v_bucket_items x.bucket.items.length c_v_bucket_items, Value.slice a_v_bucket_weights x.bucket.weights.length c_v_bucket_weights] 161) := (hG5.old _ (lt_in x4) (fun hh => S4.own.ne x4 (by decide) _ hh rfl)).trans x4
  go_wp2
  go_ret
  exact ⟨_, rfl, S5.done⟩
structure MapT where
  epoch : Int
  osds : List OsdT
  pools : List PoolT
  buckets : List BucketT
  leaf : Int
def MapT.Is (w : World) (S : Nat → Prop) (cs : List Value) (x : MapT) : Prop := ∃ v_osds v_pools v_buckets : Value, cs = [Value.int IntKind.i64 x.epoch, v_osds, v_pools, v_buckets, Value.int IntKind.i64 x.leaf] ∧ in64 x.epoch ∧ in64 x.leaf ∧ ListIs 6 OsdT.Is w S v_osds x.osds ∧ ListIs 4 PoolT.Is w S v_pools x.pools ∧ ListIs 4 BucketT.Is w S v_buckets x.buckets
def MapT.enc (x : MapT) : List UInt8 := [] ++ encI x.epoch ++ leB 4 x.osds.length ++ x.osds.flatMap OsdT.enc ++ leB 4 x.pools.length ++ x.pools.flatMap PoolT.enc ++ leB 4 x.buckets.length ++ x.buckets.flatMap BucketT.enc ++ encI x.leaf
theorem MapT.Is.heap {w w' : World} {S S' : Nat → Prop} {cs : List Value} {x : MapT} (h : MapT.Is w S cs x) (hS : ∀ k, S k → S' k) (hk : ∀ k, S k → w'.heap[k]? = w.heap[k]?) : MapT.Is w' S' cs x := by
  obtain ⟨v_osds, v_pools, v_buckets, rfl, i0, i1, l0, l1, l2⟩ := h
  exact ⟨v_osds, v_pools, v_buckets, rfl, i0, i1, l0.heap (fun _ _ h => OsdT.Is.heap h) hS hk, l1.heap (fun _ _ h => PoolT.Is.heap h) hS hk, l2.heap (fun _ _ h => BucketT.Is.heap h hS hk) hS hk⟩
theorem putMap_c {w : World} {v : Value} {out : List UInt8} {g : Option Nat} (h : Own w 5 1 v out.length (out.map bv) g) {S : Nat → Prop} (hS : ∀ k, S k → k < w.heap.size ∧ g ≠ some k) (x : MapT) {cs : List Value} (hx : MapT.Is w S cs x) (hm : out.length + x.enc.length ≤ 140737488353500) :
    Calls Tryz.prog 44 #[v, .agg cs.toArray] w fun e w' => ∃ v', e = .returned v' ∧ Grew w w' v' out g x.enc := by
  obtain ⟨v_osds, v_pools, v_buckets, rfl, i0, i1, l0, l1, l2⟩ := hx
  obtain ⟨a_v_osds, c_v_osds, rfl, -⟩ := l0.shape
  obtain ⟨a_v_pools, c_v_pools, rfl, -⟩ := l1.shape
  obtain ⟨a_v_buckets, c_v_buckets, rfl, -⟩ := l2.shape
  simp only [MapT.enc] at hm ⊢
  obtain ⟨a0, c0, rfl, -, -⟩ := h.shape
  go_enter Tryz.func44, Tryz.ntmps44
  go_wp2_with fail
  have x0 : (w.alloc (Obj.cells #[Value.int IntKind.i64 x.epoch, Value.slice a_v_osds x.osds.length c_v_osds, Value.slice a_v_pools x.pools.length c_v_pools, Value.slice a_v_buckets x.buckets.length c_v_buckets, Value.int IntKind.i64 x.leaf] 67)).heap[w.heap.size]? = some (Obj.cells #[Value.int IntKind.i64 x.epoch, Value.slice a_v_osds x.osds.length c_v_osds, Value.slice a_v_pools x.pools.length c_v_pools, Value.slice a_v_buckets x.buckets.length c_v_buckets, Value.int IntKind.i64 x.leaf] 67) := heap_alloc_new' _ _
  have S0 := (Out.start h).alloc (Obj.cells #[Value.int IntKind.i64 x.epoch, Value.slice a_v_osds x.osds.length c_v_osds, Value.slice a_v_pools x.pools.length c_v_pools, Value.slice a_v_buckets x.buckets.length c_v_buckets, Value.int IntKind.i64 x.leaf] 67)
  generalize w.alloc (Obj.cells #[Value.int IntKind.i64 x.epoch, Value.slice a_v_osds x.osds.length c_v_osds, Value.slice a_v_pools x.pools.length c_v_pools, Value.slice a_v_buckets x.buckets.length c_v_buckets, Value.int IntKind.i64 x.leaf] 67) = w0 at x0 S0 ⊢
  refine (int_c S0.own x.epoch (by have := S0.len; simp only [List.length_append, List.length_nil, encI_length, bB_length, leB_length] at this hm; omega)).mono ?_
  rintro e w1 ⟨v1, rfl, hG1⟩
  obtain ⟨L1, g1, S1⟩ := S0.then hG1
  obtain ⟨a1, c1, rfl, -, -⟩ := S1.own.shape
  have x1 : w1.heap[w.heap.size]? = some (Obj.cells #[Value.int IntKind.i64 x.epoch, Value.slice a_v_osds x.osds.length c_v_osds, Value.slice a_v_pools x.pools.length c_v_pools, Value.slice a_v_buckets x.buckets.length c_v_buckets, Value.int IntKind.i64 x.leaf] 67) := (hG1.old _ (lt_in x0) (fun hh => S0.own.ne x0 (by decide) _ hh rfl)).trans x0
  have z1 : w1.cell? ⟨w.heap.size, 1, none⟩ = some (Value.slice a_v_osds x.osds.length c_v_osds) := cell_in x1
  have lx := lt_in x1
  go_wp2_with fail
  clear z1 lx
  refine (countRef_c S1.own x.osds.length (by have := S1.len; simp only [List.length_append, List.length_nil, encI_length, bB_length, leB_length] at this hm; omega)).mono ?_
  rintro e w2 ⟨v2, rfl, hG2⟩
  obtain ⟨L2, g2, S2⟩ := S1.then hG2
  obtain ⟨a2, c2, rfl, -, -⟩ := S2.own.shape
  have x2 : w2.heap[w.heap.size]? = some (Obj.cells #[Value.int IntKind.i64 x.epoch, Value.slice a_v_osds x.osds.length c_v_osds, Value.slice a_v_pools x.pools.length c_v_pools, Value.slice a_v_buckets x.buckets.length c_v_buckets, Value.int IntKind.i64 x.leaf] 67) := (hG2.old _ (lt_in x1) (fun hh => S1.own.ne x1 (by decide) _ hh rfl)).trans x1
  have z1 : w2.cell? ⟨w.heap.size, 1, none⟩ = some (Value.slice a_v_osds x.osds.length c_v_osds) := cell_in x2
  have lx := lt_in x2
  go_wp2
  clear z1 lx
  go_loopw [23, 0] (fun i o w' => ∃ (k : Nat) (L : List UInt8) (gL : Option Nat), k ≤ x.osds.length ∧ i = .int .i64 k ∧ Out w w' o out g (([] ++ encI x.epoch ++ leB 4 x.osds.length) ++ (x.osds.take k).flatMap OsdT.enc) L gL ∧ w'.heap[w.heap.size]? = some (Obj.cells #[Value.int IntKind.i64 x.epoch, Value.slice a_v_osds x.osds.length c_v_osds, Value.slice a_v_pools x.pools.length c_v_pools, Value.slice a_v_buckets x.buckets.length c_v_buckets, Value.int IntKind.i64 x.leaf] 67)) (fun i _ _ => x.osds.length - (intOf i).toNat)
  case atStart => exact ⟨0, L2, g2, by omega, rfl, S2.cast (by simp), x2⟩
  case round =>
    obtain ⟨k, L, gL, hk, rfl, SL, xl⟩ := hrel
    by_cases hk2 : k < x.osds.length
    · have hki : (k : Int) < (x.osds.length : Int) := by omega
      have hnl : x.osds.length ≤ 9223372036854775807 := l0.small
      have hd := SL.data hS
      obtain ⟨b, off, cs, rfl, hb, hcl, hcell, hr⟩ := (l0.heap (fun _ _ h => OsdT.Is.heap h) (fun _ h => h) hd).at hk2
      have hfl := flatMap_le OsdT.enc x.osds (k + 1)
      have hft := flatMap_take OsdT.enc x.osds k hk2
      rw [hft, List.length_append] at hfl
      obtain ⟨e, he⟩ : ∃ e, e = x.osds[k] := ⟨_, rfl⟩
      rw [← he] at hr hft hfl
      have HFT := Lib.hid hft
      clear hft he hcl
      obtain ⟨aL, cL, rfl, -, -⟩ := SL.own.shape
      obtain ⟨rfl, -⟩ := hr
      have y0 : wr.cell? ⟨b, off + k * 6, none⟩ = some (Value.bool e.ex) := hcell 0 (by omega)
      have y1 : wr.cell? ⟨b, off + k * 6 + 1, none⟩ = some (Value.bool e.up) := hcell 1 (by omega)
      have y2 : wr.cell? ⟨b, off + k * 6 + 2, none⟩ = some (Value.int IntKind.i64 e.weight) := hcell 2 (by omega)
      have y3 : wr.cell? ⟨b, off + k * 6 + 3, none⟩ = some (Value.int IntKind.i64 e.boot) := hcell 3 (by omega)
      have y4 : wr.cell? ⟨b, off + k * 6 + 4, none⟩ = some (Value.int IntKind.i64 e.upFrom) := hcell 4 (by omega)
      have y5 : wr.cell? ⟨b, off + k * 6 + 5, none⟩ = some (Value.int IntKind.i64 e.upThru) := hcell 5 (by omega)
      go_wp2_with fail
      have SA := SL.alloc (Obj.cells #[Value.bool e.ex, Value.bool e.up, Value.int IntKind.i64 e.weight, Value.int IntKind.i64 e.boot, Value.int IntKind.i64 e.upFrom, Value.int IntKind.i64 e.upThru] 208)
      have xa : (wr.alloc (Obj.cells #[Value.bool e.ex, Value.bool e.up, Value.int IntKind.i64 e.weight, Value.int IntKind.i64 e.boot, Value.int IntKind.i64 e.upFrom, Value.int IntKind.i64 e.upThru] 208)).heap[w.heap.size]? = _ := (Below.heap_alloc _ _ _ (lt_in xl)).trans xl
      generalize wr.alloc (Obj.cells #[Value.bool e.ex, Value.bool e.up, Value.int IntKind.i64 e.weight, Value.int IntKind.i64 e.boot, Value.int IntKind.i64 e.upFrom, Value.int IntKind.i64 e.upThru] 208) = wa at SA xa ⊢
      refine (putOsd_c SA.own e (by have := SL.len; simp only [List.length_append, List.length_nil, encI_length, bB_length, leB_length] at this hm hfl; omega)).mono ?_
      rintro _ w9 ⟨v9, rfl, hG⟩
      obtain ⟨L9, g9, S9⟩ := SA.then hG
      have xl9 : w9.heap[w.heap.size]? = _ := (hG.old _ (lt_in xa) (fun hh => SA.own.ne xa (by decide) _ hh rfl)).trans xa
      obtain ⟨a9, c9, rfl, -, -⟩ := S9.own.shape
      have X9 := Lib.hid xl9
      have HS9 := Lib.hid (S9.cast (more' := ([] ++ encI x.epoch ++ leB 4 x.osds.length) ++ (x.osds.take (k + 1)).flatMap OsdT.enc) (by rw [HFT.out, List.append_assoc]))
      clear xl9 S9 hG
      go_wp2
      exact ⟨⟨k + 1, L9, g9, by omega, by simp, HS9.out, X9.out⟩, by simp [intOf]; omega⟩
    · obtain rfl : k = x.osds.length := by omega
      have S3 : Out w wr _ out g (([] ++ encI x.epoch ++ leB 4 x.osds.length) ++ x.osds.flatMap OsdT.enc) L gL := SL.cast (by rw [List.take_length])
      obtain ⟨a3, c3, rfl, -, -⟩ := S3.own.shape
      have x3 := xl
      rename World => w3
      clear SL xl
      have z2 : w3.cell? ⟨w.heap.size, 2, none⟩ = some (Value.slice a_v_pools x.pools.length c_v_pools) := cell_in x3
      have lx := lt_in x3
      go_wp2_with fail
      clear z2 lx
      refine (countRef_c S3.own x.pools.length (by have := S3.len; simp only [List.length_append, List.length_nil, encI_length, bB_length, leB_length] at this hm; omega)).mono ?_
      rintro e w4 ⟨v4, rfl, hG4⟩
      obtain ⟨L4, g4, S4⟩ := S3.then hG4
      obtain ⟨a4, c4, rfl, -, -⟩ := S4.own.shape
      have x4 : w4.heap[w.heap.size]? = some (Obj.cells #[Value.int IntKind.i64 x.epoch, Value.slice a_v_osds x.osds.length c_v_osds, Value.slice a_v_pools x.pools.length c_v_pools, Value.slice a_v_buckets x.buckets.length c_v_buckets, Value.int IntKind.i64 x.leaf] 67) := (hG4.old _ (lt_in x3) (fun hh => S3.own.ne x3 (by decide) _ hh rfl)).trans x3
      have z2 : w4.cell? ⟨w.heap.size, 2, none⟩ = some (Value.slice a_v_pools x.pools.length c_v_pools) := cell_in x4
      have lx := lt_in x4
      go_wp2
      clear z2 lx
      go_loopw [39, 0] (fun i o w' => ∃ (k : Nat) (L : List UInt8) (gL : Option Nat), k ≤ x.pools.length ∧ i = .int .i64 k ∧ Out w w' o out g (([] ++ encI x.epoch ++ leB 4 x.osds.length ++ x.osds.flatMap OsdT.enc ++ leB 4 x.pools.length) ++ (x.pools.take k).flatMap PoolT.enc) L gL ∧ w'.heap[w.heap.size]? = some (Obj.cells #[Value.int IntKind.i64 x.epoch, Value.slice a_v_osds x.osds.length c_v_osds, Value.slice a_v_pools x.pools.length c_v_pools, Value.slice a_v_buckets x.buckets.length c_v_buckets, Value.int IntKind.i64 x.leaf] 67)) (fun i _ _ => x.pools.length - (intOf i).toNat)
      case atStart => exact ⟨0, L4, g4, by omega, rfl, S4.cast (by simp), x4⟩
      case round =>
        obtain ⟨k, L, gL, hk, rfl, SL, xl⟩ := hrel
        by_cases hk2 : k < x.pools.length
        · have hki : (k : Int) < (x.pools.length : Int) := by omega
          have hnl : x.pools.length ≤ 9223372036854775807 := l1.small
          have hd := SL.data hS
          obtain ⟨b, off, cs, rfl, hb, hcl, hcell, hr⟩ := (l1.heap (fun _ _ h => PoolT.Is.heap h) (fun _ h => h) hd).at hk2
          have hfl := flatMap_le PoolT.enc x.pools (k + 1)
          have hft := flatMap_take PoolT.enc x.pools k hk2
          rw [hft, List.length_append] at hfl
          obtain ⟨e, he⟩ : ∃ e, e = x.pools[k] := ⟨_, rfl⟩
          rw [← he] at hr hft hfl
          have HFT := Lib.hid hft
          clear hft he hcl
          obtain ⟨aL, cL, rfl, -, -⟩ := SL.own.shape
          obtain ⟨rfl, -⟩ := hr
          have y0 : wr.cell? ⟨b, off + k * 4, none⟩ = some (Value.int IntKind.i64 e.id) := hcell 0 (by omega)
          have y1 : wr.cell? ⟨b, off + k * 4 + 1, none⟩ = some (Value.int IntKind.i64 e.size) := hcell 1 (by omega)
          have y2 : wr.cell? ⟨b, off + k * 4 + 2, none⟩ = some (Value.int IntKind.i64 e.min) := hcell 2 (by omega)
          have y3 : wr.cell? ⟨b, off + k * 4 + 3, none⟩ = some (Value.int IntKind.i64 e.pgs) := hcell 3 (by omega)
          go_wp2_with fail
          have SA := SL.alloc (Obj.cells #[Value.int IntKind.i64 e.id, Value.int IntKind.i64 e.size, Value.int IntKind.i64 e.min, Value.int IntKind.i64 e.pgs] 156)
          have xa : (wr.alloc (Obj.cells #[Value.int IntKind.i64 e.id, Value.int IntKind.i64 e.size, Value.int IntKind.i64 e.min, Value.int IntKind.i64 e.pgs] 156)).heap[w.heap.size]? = _ := (Below.heap_alloc _ _ _ (lt_in xl)).trans xl
          generalize wr.alloc (Obj.cells #[Value.int IntKind.i64 e.id, Value.int IntKind.i64 e.size, Value.int IntKind.i64 e.min, Value.int IntKind.i64 e.pgs] 156) = wa at SA xa ⊢
          refine (putPool_c SA.own e (by have := SL.len; simp only [List.length_append, List.length_nil, encI_length, bB_length, leB_length] at this hm hfl; omega)).mono ?_
          rintro _ w9 ⟨v9, rfl, hG⟩
          obtain ⟨L9, g9, S9⟩ := SA.then hG
          have xl9 : w9.heap[w.heap.size]? = _ := (hG.old _ (lt_in xa) (fun hh => SA.own.ne xa (by decide) _ hh rfl)).trans xa
          obtain ⟨a9, c9, rfl, -, -⟩ := S9.own.shape
          have X9 := Lib.hid xl9
          have HS9 := Lib.hid (S9.cast (more' := ([] ++ encI x.epoch ++ leB 4 x.osds.length ++ x.osds.flatMap OsdT.enc ++ leB 4 x.pools.length) ++ (x.pools.take (k + 1)).flatMap PoolT.enc) (by rw [HFT.out, List.append_assoc]))
          clear xl9 S9 hG
          go_wp2
          exact ⟨⟨k + 1, L9, g9, by omega, by simp, HS9.out, X9.out⟩, by simp [intOf]; omega⟩
        · obtain rfl : k = x.pools.length := by omega
          have S5 : Out w wr _ out g (([] ++ encI x.epoch ++ leB 4 x.osds.length ++ x.osds.flatMap OsdT.enc ++ leB 4 x.pools.length) ++ x.pools.flatMap PoolT.enc) L gL := SL.cast (by rw [List.take_length])
          obtain ⟨a5, c5, rfl, -, -⟩ := S5.own.shape
          have x5 := xl
          rename World => w5
          clear SL xl
          have z3 : w5.cell? ⟨w.heap.size, 3, none⟩ = some (Value.slice a_v_buckets x.buckets.length c_v_buckets) := cell_in x5
          have lx := lt_in x5
          go_wp2_with fail
          clear z3 lx
          refine (countRef_c S5.own x.buckets.length (by have := S5.len; simp only [List.length_append, List.length_nil, encI_length, bB_length, leB_length] at this hm; omega)).mono ?_
          rintro e w6 ⟨v6, rfl, hG6⟩
          obtain ⟨L6, g6, S6⟩ := S5.then hG6
          obtain ⟨a6, c6, rfl, -, -⟩ := S6.own.shape
          have x6 : w6.heap[w.heap.size]? = some (Obj.cells #[Value.int IntKind.i64 x.epoch, Value.slice a_v_osds x.osds.length c_v_osds, Value.slice a_v_pools x.pools.length c_v_pools, Value.slice a_v_buckets x.buckets.length c_v_buckets, Value.int IntKind.i64 x.leaf] 67) := (hG6.old _ (lt_in x5) (fun hh => S5.own.ne x5 (by decide) _ hh rfl)).trans x5
          have z3 : w6.cell? ⟨w.heap.size, 3, none⟩ = some (Value.slice a_v_buckets x.buckets.length c_v_buckets) := cell_in x6
          have lx := lt_in x6
          go_wp2
          clear z3 lx
          go_loopw [55, 0] (fun i o w' => ∃ (k : Nat) (L : List UInt8) (gL : Option Nat), k ≤ x.buckets.length ∧ i = .int .i64 k ∧ Out w w' o out g (([] ++ encI x.epoch ++ leB 4 x.osds.length ++ x.osds.flatMap OsdT.enc ++ leB 4 x.pools.length ++ x.pools.flatMap PoolT.enc ++ leB 4 x.buckets.length) ++ (x.buckets.take k).flatMap BucketT.enc) L gL ∧ w'.heap[w.heap.size]? = some (Obj.cells #[Value.int IntKind.i64 x.epoch, Value.slice a_v_osds x.osds.length c_v_osds, Value.slice a_v_pools x.pools.length c_v_pools, Value.slice a_v_buckets x.buckets.length c_v_buckets, Value.int IntKind.i64 x.leaf] 67)) (fun i _ _ => x.buckets.length - (intOf i).toNat)
          case atStart => exact ⟨0, L6, g6, by omega, rfl, S6.cast (by simp), x6⟩
          case round =>
            obtain ⟨k, L, gL, hk, rfl, SL, xl⟩ := hrel
            by_cases hk2 : k < x.buckets.length
            · have hki : (k : Int) < (x.buckets.length : Int) := by omega
              have hnl : x.buckets.length ≤ 9223372036854775807 := l2.small
              have hd := SL.data hS
              obtain ⟨b, off, cs, rfl, hb, hcl, hcell, hr⟩ := (l2.heap (fun _ _ h => BucketT.Is.heap h (fun _ h => h) hd) (fun _ h => h) hd).at hk2
              have hfl := flatMap_le BucketT.enc x.buckets (k + 1)
              have hft := flatMap_take BucketT.enc x.buckets k hk2
              rw [hft, List.length_append] at hfl
              obtain ⟨e, he⟩ : ∃ e, e = x.buckets[k] := ⟨_, rfl⟩
              rw [← he] at hr hft hfl
              have HFT := Lib.hid hft
              clear hft he hcl
              obtain ⟨aL, cL, rfl, -, -⟩ := SL.own.shape
              have hr0 := hr
              obtain ⟨uv_items, uv_weights, rfl, -, -, m0, m1⟩ := hr
              obtain ⟨au0, cu0, rfl, -⟩ := m0.shape
              obtain ⟨au1, cu1, rfl, -⟩ := m1.shape
              have y0 : wr.cell? ⟨b, off + k * 4, none⟩ = some (Value.int IntKind.i64 e.id) := hcell 0 (by omega)
              have y1 : wr.cell? ⟨b, off + k * 4 + 1, none⟩ = some (Value.int IntKind.i64 e.kind) := hcell 1 (by omega)
              have y2 : wr.cell? ⟨b, off + k * 4 + 2, none⟩ = some (Value.slice au0 e.items.length cu0) := hcell 2 (by omega)
              have y3 : wr.cell? ⟨b, off + k * 4 + 3, none⟩ = some (Value.slice au1 e.weights.length cu1) := hcell 3 (by omega)
              go_wp2_with fail
              have SA := SL.alloc (Obj.cells #[Value.int IntKind.i64 e.id, Value.int IntKind.i64 e.kind, Value.slice au0 e.items.length cu0, Value.slice au1 e.weights.length cu1] 159)
              have xa : (wr.alloc (Obj.cells #[Value.int IntKind.i64 e.id, Value.int IntKind.i64 e.kind, Value.slice au0 e.items.length cu0, Value.slice au1 e.weights.length cu1] 159)).heap[w.heap.size]? = _ := (Below.heap_alloc _ _ _ (lt_in xl)).trans xl
              have hrA : BucketT.Is (wr.alloc (Obj.cells #[Value.int IntKind.i64 e.id, Value.int IntKind.i64 e.kind, Value.slice au0 e.items.length cu0, Value.slice au1 e.weights.length cu1] 159)) S _ e := hr0.heap (fun _ h => h) (fun k hk => Below.heap_alloc _ _ _ (Nat.lt_of_lt_of_le (hS k hk).1 SL.kept.size))
              generalize wr.alloc (Obj.cells #[Value.int IntKind.i64 e.id, Value.int IntKind.i64 e.kind, Value.slice au0 e.items.length cu0, Value.slice au1 e.weights.length cu1] 159) = wa at SA xa hrA ⊢
              refine (putBucket_c (S := S) SA.own (fun k hk => ⟨Nat.lt_of_lt_of_le (hS k hk).1 SA.kept.size, fun hh => by rcases SA.new k hh with h' | h'; exact (hS k hk).2 h'; exact absurd (hS k hk).1 (by omega)⟩) e hrA (by have := SL.len; simp only [List.length_append, List.length_nil, encI_length, bB_length, leB_length] at this hm hfl; omega)).mono ?_
              rintro _ w9 ⟨v9, rfl, hG⟩
              obtain ⟨L9, g9, S9⟩ := SA.then hG
              have xl9 : w9.heap[w.heap.size]? = _ := (hG.old _ (lt_in xa) (fun hh => SA.own.ne xa (by decide) _ hh rfl)).trans xa
              obtain ⟨a9, c9, rfl, -, -⟩ := S9.own.shape
              have X9 := Lib.hid xl9
              have HS9 := Lib.hid (S9.cast (more' := ([] ++ encI x.epoch ++ leB 4 x.osds.length ++ x.osds.flatMap OsdT.enc ++ leB 4 x.pools.length ++ x.pools.flatMap PoolT.enc ++ leB 4 x.buckets.length) ++ (x.buckets.take (k + 1)).flatMap BucketT.enc) (by rw [HFT.out, List.append_assoc]))
              clear xl9 S9 hG
              go_wp2
              exact ⟨⟨k + 1, L9, g9, by omega, by simp, HS9.out, X9.out⟩, by simp [intOf]; omega⟩
            · obtain rfl : k = x.buckets.length := by omega
              have S7 : Out w wr _ out g (([] ++ encI x.epoch ++ leB 4 x.osds.length ++ x.osds.flatMap OsdT.enc ++ leB 4 x.pools.length ++ x.pools.flatMap PoolT.enc ++ leB 4 x.buckets.length) ++ x.buckets.flatMap BucketT.enc) L gL := SL.cast (by rw [List.take_length])
              obtain ⟨a7, c7, rfl, -, -⟩ := S7.own.shape
              have x7 := xl
              rename World => w7
              clear SL xl
              have z4 : w7.cell? ⟨w.heap.size, 4, none⟩ = some (Value.int IntKind.i64 x.leaf) := cell_in x7
              have lx := lt_in x7
              go_wp2_with fail
              clear z4 lx
              refine (int_c S7.own x.leaf (by have := S7.len; simp only [List.length_append, List.length_nil, encI_length, bB_length, leB_length] at this hm; omega)).mono ?_
              rintro e w8 ⟨v8, rfl, hG8⟩
              obtain ⟨L8, g8, S8⟩ := S7.then hG8
              obtain ⟨a8, c8, rfl, -, -⟩ := S8.own.shape
              have x8 : w8.heap[w.heap.size]? = some (Obj.cells #[Value.int IntKind.i64 x.epoch, Value.slice a_v_osds x.osds.length c_v_osds, Value.slice a_v_pools x.pools.length c_v_pools, Value.slice a_v_buckets x.buckets.length c_v_buckets, Value.int IntKind.i64 x.leaf] 67) := (hG8.old _ (lt_in x7) (fun hh => S7.own.ne x7 (by decide) _ hh rfl)).trans x7
              go_wp2
              go_ret
              exact ⟨_, rfl, S8.done⟩
structure IncT where
  epoch : Int
  changes : List ChangeT
def IncT.Is (w : World) (S : Nat → Prop) (cs : List Value) (x : IncT) : Prop := ∃ v_changes : Value, cs = [Value.int IntKind.i64 x.epoch, v_changes] ∧ in64 x.epoch ∧ ListIs 11 ChangeT.Is w S v_changes x.changes
def IncT.enc (x : IncT) : List UInt8 := [] ++ encI x.epoch ++ leB 4 x.changes.length ++ x.changes.flatMap ChangeT.enc
theorem IncT.Is.heap {w w' : World} {S S' : Nat → Prop} {cs : List Value} {x : IncT} (h : IncT.Is w S cs x) (hS : ∀ k, S k → S' k) (hk : ∀ k, S k → w'.heap[k]? = w.heap[k]?) : IncT.Is w' S' cs x := by
  obtain ⟨v_changes, rfl, i0, l0⟩ := h
  exact ⟨v_changes, rfl, i0, l0.heap (fun _ _ h => ChangeT.Is.heap h hS hk) hS hk⟩
theorem putInc_c {w : World} {v : Value} {out : List UInt8} {g : Option Nat} (h : Own w 5 1 v out.length (out.map bv) g) {S : Nat → Prop} (hS : ∀ k, S k → k < w.heap.size ∧ g ≠ some k) (x : IncT) {cs : List Value} (hx : IncT.Is w S cs x) (hm : out.length + x.enc.length ≤ 140737488353500) :
    Calls Tryz.prog 39 #[v, .agg cs.toArray] w fun e w' => ∃ v', e = .returned v' ∧ Grew w w' v' out g x.enc := by
  obtain ⟨v_changes, rfl, i0, l0⟩ := hx
  obtain ⟨a_v_changes, c_v_changes, rfl, -⟩ := l0.shape
  simp only [IncT.enc] at hm ⊢
  obtain ⟨a0, c0, rfl, -, -⟩ := h.shape
  go_enter Tryz.func39, Tryz.ntmps39
  go_wp2_with fail
  have x0 : (w.alloc (Obj.cells #[Value.int IntKind.i64 x.epoch, Value.slice a_v_changes x.changes.length c_v_changes] 57)).heap[w.heap.size]? = some (Obj.cells #[Value.int IntKind.i64 x.epoch, Value.slice a_v_changes x.changes.length c_v_changes] 57) := heap_alloc_new' _ _
  have S0 := (Out.start h).alloc (Obj.cells #[Value.int IntKind.i64 x.epoch, Value.slice a_v_changes x.changes.length c_v_changes] 57)
  generalize w.alloc (Obj.cells #[Value.int IntKind.i64 x.epoch, Value.slice a_v_changes x.changes.length c_v_changes] 57) = w0 at x0 S0 ⊢
  refine (int_c S0.own x.epoch (by have := S0.len; simp only [List.length_append, List.length_nil, encI_length, bB_length, leB_length] at this hm; omega)).mono ?_
  rintro e w1 ⟨v1, rfl, hG1⟩
  obtain ⟨L1, g1, S1⟩ := S0.then hG1
  obtain ⟨a1, c1, rfl, -, -⟩ := S1.own.shape
  have x1 : w1.heap[w.heap.size]? = some (Obj.cells #[Value.int IntKind.i64 x.epoch, Value.slice a_v_changes x.changes.length c_v_changes] 57) := (hG1.old _ (lt_in x0) (fun hh => S0.own.ne x0 (by decide) _ hh rfl)).trans x0
  have z1 : w1.cell? ⟨w.heap.size, 1, none⟩ = some (Value.slice a_v_changes x.changes.length c_v_changes) := cell_in x1
  have lx := lt_in x1
  go_wp2_with fail
  clear z1 lx
  refine (countRef_c S1.own x.changes.length (by have := S1.len; simp only [List.length_append, List.length_nil, encI_length, bB_length, leB_length] at this hm; omega)).mono ?_
  rintro e w2 ⟨v2, rfl, hG2⟩
  obtain ⟨L2, g2, S2⟩ := S1.then hG2
  obtain ⟨a2, c2, rfl, -, -⟩ := S2.own.shape
  have x2 : w2.heap[w.heap.size]? = some (Obj.cells #[Value.int IntKind.i64 x.epoch, Value.slice a_v_changes x.changes.length c_v_changes] 57) := (hG2.old _ (lt_in x1) (fun hh => S1.own.ne x1 (by decide) _ hh rfl)).trans x1
  have z1 : w2.cell? ⟨w.heap.size, 1, none⟩ = some (Value.slice a_v_changes x.changes.length c_v_changes) := cell_in x2
  have lx := lt_in x2
  go_wp2
  clear z1 lx
  go_loopw [19, 0] (fun i o w' => ∃ (k : Nat) (L : List UInt8) (gL : Option Nat), k ≤ x.changes.length ∧ i = .int .i64 k ∧ Out w w' o out g (([] ++ encI x.epoch ++ leB 4 x.changes.length) ++ (x.changes.take k).flatMap ChangeT.enc) L gL ∧ w'.heap[w.heap.size]? = some (Obj.cells #[Value.int IntKind.i64 x.epoch, Value.slice a_v_changes x.changes.length c_v_changes] 57)) (fun i _ _ => x.changes.length - (intOf i).toNat)
  case atStart => exact ⟨0, L2, g2, by omega, rfl, S2.cast (by simp), x2⟩
  case round =>
    obtain ⟨k, L, gL, hk, rfl, SL, xl⟩ := hrel
    by_cases hk2 : k < x.changes.length
    · have hki : (k : Int) < (x.changes.length : Int) := by omega
      have hnl : x.changes.length ≤ 9223372036854775807 := l0.small
      have hd := SL.data hS
      obtain ⟨b, off, cs, rfl, hb, hcl, hcell, hr⟩ := (l0.heap (fun _ _ h => ChangeT.Is.heap h (fun _ h => h) hd) (fun _ h => h) hd).at hk2
      have hfl := flatMap_le ChangeT.enc x.changes (k + 1)
      have hft := flatMap_take ChangeT.enc x.changes k hk2
      rw [hft, List.length_append] at hfl
      obtain ⟨e, he⟩ : ∃ e, e = x.changes[k] := ⟨_, rfl⟩
      rw [← he] at hr hft hfl
      have HFT := Lib.hid hft
      clear hft he hcl
      obtain ⟨aL, cL, rfl, -, -⟩ := SL.own.shape
      have hr0 := hr
      obtain ⟨uv_bucket_items, uv_bucket_weights, rfl, -, -, -, -, -, -, -, -, -, m0, m1⟩ := hr
      obtain ⟨au0, cu0, rfl, -⟩ := m0.shape
      obtain ⟨au1, cu1, rfl, -⟩ := m1.shape
      have y0 : wr.cell? ⟨b, off + k * 11, none⟩ = some (Value.int IntKind.i64 e.kind) := hcell 0 (by omega)
      have y1 : wr.cell? ⟨b, off + k * 11 + 1, none⟩ = some (Value.int IntKind.i64 e.osd) := hcell 1 (by omega)
      have y2 : wr.cell? ⟨b, off + k * 11 + 2, none⟩ = some (Value.int IntKind.i64 e.value) := hcell 2 (by omega)
      have y3 : wr.cell? ⟨b, off + k * 11 + 3, none⟩ = some (Value.int IntKind.i64 e.pool.id) := hcell 3 (by omega)
      have y4 : wr.cell? ⟨b, off + k * 11 + 4, none⟩ = some (Value.int IntKind.i64 e.pool.size) := hcell 4 (by omega)
      have y5 : wr.cell? ⟨b, off + k * 11 + 5, none⟩ = some (Value.int IntKind.i64 e.pool.min) := hcell 5 (by omega)
      have y6 : wr.cell? ⟨b, off + k * 11 + 6, none⟩ = some (Value.int IntKind.i64 e.pool.pgs) := hcell 6 (by omega)
      have y7 : wr.cell? ⟨b, off + k * 11 + 7, none⟩ = some (Value.int IntKind.i64 e.bucket.id) := hcell 7 (by omega)
      have y8 : wr.cell? ⟨b, off + k * 11 + 8, none⟩ = some (Value.int IntKind.i64 e.bucket.kind) := hcell 8 (by omega)
      have y9 : wr.cell? ⟨b, off + k * 11 + 9, none⟩ = some (Value.slice au0 e.bucket.items.length cu0) := hcell 9 (by omega)
      have y10 : wr.cell? ⟨b, off + k * 11 + 10, none⟩ = some (Value.slice au1 e.bucket.weights.length cu1) := hcell 10 (by omega)
      go_wp2_with fail
      have SA := SL.alloc (Obj.cells #[Value.int IntKind.i64 e.kind, Value.int IntKind.i64 e.osd, Value.int IntKind.i64 e.value, Value.int IntKind.i64 e.pool.id, Value.int IntKind.i64 e.pool.size, Value.int IntKind.i64 e.pool.min, Value.int IntKind.i64 e.pool.pgs, Value.int IntKind.i64 e.bucket.id, Value.int IntKind.i64 e.bucket.kind, Value.slice au0 e.bucket.items.length cu0, Value.slice au1 e.bucket.weights.length cu1] 161)
      have xa : (wr.alloc (Obj.cells #[Value.int IntKind.i64 e.kind, Value.int IntKind.i64 e.osd, Value.int IntKind.i64 e.value, Value.int IntKind.i64 e.pool.id, Value.int IntKind.i64 e.pool.size, Value.int IntKind.i64 e.pool.min, Value.int IntKind.i64 e.pool.pgs, Value.int IntKind.i64 e.bucket.id, Value.int IntKind.i64 e.bucket.kind, Value.slice au0 e.bucket.items.length cu0, Value.slice au1 e.bucket.weights.length cu1] 161)).heap[w.heap.size]? = _ := (Below.heap_alloc _ _ _ (lt_in xl)).trans xl
      have hrA : ChangeT.Is (wr.alloc (Obj.cells #[Value.int IntKind.i64 e.kind, Value.int IntKind.i64 e.osd, Value.int IntKind.i64 e.value, Value.int IntKind.i64 e.pool.id, Value.int IntKind.i64 e.pool.size, Value.int IntKind.i64 e.pool.min, Value.int IntKind.i64 e.pool.pgs, Value.int IntKind.i64 e.bucket.id, Value.int IntKind.i64 e.bucket.kind, Value.slice au0 e.bucket.items.length cu0, Value.slice au1 e.bucket.weights.length cu1] 161)) S _ e := hr0.heap (fun _ h => h) (fun k hk => Below.heap_alloc _ _ _ (Nat.lt_of_lt_of_le (hS k hk).1 SL.kept.size))
      generalize wr.alloc (Obj.cells #[Value.int IntKind.i64 e.kind, Value.int IntKind.i64 e.osd, Value.int IntKind.i64 e.value, Value.int IntKind.i64 e.pool.id, Value.int IntKind.i64 e.pool.size, Value.int IntKind.i64 e.pool.min, Value.int IntKind.i64 e.pool.pgs, Value.int IntKind.i64 e.bucket.id, Value.int IntKind.i64 e.bucket.kind, Value.slice au0 e.bucket.items.length cu0, Value.slice au1 e.bucket.weights.length cu1] 161) = wa at SA xa hrA ⊢
      refine (putChange_c (S := S) SA.own (fun k hk => ⟨Nat.lt_of_lt_of_le (hS k hk).1 SA.kept.size, fun hh => by rcases SA.new k hh with h' | h'; exact (hS k hk).2 h'; exact absurd (hS k hk).1 (by omega)⟩) e hrA (by have := SL.len; simp only [List.length_append, List.length_nil, encI_length, bB_length, leB_length] at this hm hfl; omega)).mono ?_
      rintro _ w9 ⟨v9, rfl, hG⟩
      obtain ⟨L9, g9, S9⟩ := SA.then hG
      have xl9 : w9.heap[w.heap.size]? = _ := (hG.old _ (lt_in xa) (fun hh => SA.own.ne xa (by decide) _ hh rfl)).trans xa
      obtain ⟨a9, c9, rfl, -, -⟩ := S9.own.shape
      have X9 := Lib.hid xl9
      have HS9 := Lib.hid (S9.cast (more' := ([] ++ encI x.epoch ++ leB 4 x.changes.length) ++ (x.changes.take (k + 1)).flatMap ChangeT.enc) (by rw [HFT.out, List.append_assoc]))
      clear xl9 S9 hG
      go_wp2
      exact ⟨⟨k + 1, L9, g9, by omega, by simp, HS9.out, X9.out⟩, by simp [intOf]; omega⟩
    · obtain rfl : k = x.changes.length := by omega
      have S3 : Out w wr _ out g (([] ++ encI x.epoch ++ leB 4 x.changes.length) ++ x.changes.flatMap ChangeT.enc) L gL := SL.cast (by rw [List.take_length])
      obtain ⟨a3, c3, rfl, -, -⟩ := S3.own.shape
      have x3 := xl
      rename World => w3
      clear SL xl
      go_wp2
      go_ret
      exact ⟨_, rfl, S3.done⟩
end Go.Proofs.YtmbjealliinpdaaGreat
end

section

namespace Go.Proofs.YtmbjealliinpdaaGreat
open Go.RowKit
theorem countWrite_c {w : World} {c : Nat} {out : List UInt8} {g : Option Nat} (h : Writes w c out g) (n : Nat) (hn : n ≤ 9223372036854775807) (hm : out.length ≤ 140737488354500) :
    Calls Tryz.prog 138 #[.pointer (some ⟨c, 0, none⟩), .int .i64 n] w fun e w' => e = .returned (.int .i64 n) ∧ Wrote w w' c out g (leB 4 n) := by
  have e1 : (n : Int) % 18446744073709551616 = (n : Int) := by omega
  have e2 : IntKind.i64.wrap (n : Int) = (n : Int) := IntWalk.i64_in _ (by omega)
  go_enter Tryz.func138, Tryz.ntmps138
  go_wp2_with fail
  refine (wordWrite_c h n 4 (by omega) (by omega) hm).mono ?_
  rintro e w1 ⟨rfl, hw⟩
  have HW := Lib.hid hw
  obtain ⟨g', hw', -, -⟩ := hw
  obtain ⟨vo, h1, -⟩ := hw'.ex
  have c2 : w1.cell? ⟨c, 2, none⟩ = some (.bool false) := cell_in h1
  have hl := lt_in h1
  clear h1 hw' h
  go_wp2
  go_ret
  exact ⟨rfl, HW.out⟩
theorem bytesWrite_c {w : World} {c p : Nat} {out : List UInt8} {g : Option Nat} (h : Writes w c out g) {v : Value} {bs : List UInt8} {gb : Option Nat} (hp : w.heap[p]? = some (.cells #[v] 22)) (hr : Reads w 1 v bs.length (bs.map bv) gb) (hgb : ∀ k, gb = some k → k ≠ c ∧ g ≠ some k) (hm : out.length + bs.length ≤ 140737488353500) :
    Calls Tryz.prog 139 #[.pointer (some ⟨c, 0, none⟩), .pointer (some ⟨p, 0, none⟩)] w fun e w' => e = .returned (.tuple #[]) ∧ Wrote w w' c out g (leB 4 bs.length ++ bs) := by
  obtain ⟨i0, hi, hz0, hz1, hz2⟩ := info_all u8info
  obtain ⟨a, cp, rfl, hc⟩ := hr.shape
  have p0 : w.cell? ⟨p, 0, none⟩ = some (.slice a bs.length cp) := cell_in hp
  have hlp := lt_in hp
  have hpc : p ≠ c := fun e => by
    obtain ⟨vo, h1, -⟩ := h.ex
    rw [e] at hp
    rw [h1] at hp
    have := congrArg (fun o => match o with | some (Obj.cells _ t _) => t | _ => 0) hp
    simp at this
  have hpg : ∀ k, g = some k → k ≠ p := by
    obtain ⟨vo, -, h2⟩ := h.ex
    exact h2.ne hp (by decide)
  have HP := Lib.hid hp
  clear hp
  go_enter Tryz.func139, Tryz.ntmps139
  go_wp2_with fail
  refine (countWrite_c h bs.length (by omega) (by omega)).mono ?_
  rintro e w1 ⟨rfl, g1, hw1, k1, hg1⟩
  obtain ⟨vo1, q1, o1⟩ := hw1.ex
  obtain ⟨L, hL⟩ : ∃ L, L = out ++ leB 4 bs.length := ⟨_, rfl⟩
  have hLl : L.length = out.length + 4 := by rw [hL, List.length_append, leB_length]
  rw [← hL] at o1
  have HL := Lib.hid hL
  clear hL hw1 p0 h
  obtain ⟨a1, cp1, rfl, -, -⟩ := o1.shape
  have hp1 : w1.heap[p]? = _ := (k1.block _ hlp (fun h => by rcases h with h | h; exact hpc h; exact hpg p h rfl)).trans HP.out
  have r1 := hr.kept k1 (fun k hk h => by rcases h with h | h; exact (hgb k hk).1 h; exact (hgb k hk).2 h)
  have z0 : w1.cell? ⟨c, 0, none⟩ = some (.slice a1 L.length cp1) := cell_in q1
  have z2 : w1.cell? ⟨c, 2, none⟩ = some (.bool false) := cell_in q1
  have hl1 := lt_in q1
  have p0 : w1.cell? ⟨p, 0, none⟩ = some (.slice a bs.length cp) := cell_in hp1
  have hlp1 := lt_in hp1
  have Q1 := Lib.hid q1
  have HLl := Lib.hid hLl
  have hLs : L.length + bs.length ≤ 140737488353510 := by omega
  clear q1 hp1 hLl
  go_wp2
  refine wp_region_ord [1, 2, 3, 4, 5, 6, 7] [0] [8, 9, 10, 11] (by kernel_rfl) (by kernel_rfl) (fun _ _ d _ _ h => by cases d <;> exact h) ?_
  simp only [sel, List.filterMap_cons, List.filterMap_nil, List.getElem?_cons_zero, List.getElem?_cons_succ]
  repeat (quiet_step (fail))
  refine wpQuiet_nil ?_
  refine wpIdle_step (fun K hK => ?_)
  go_simp
  refine hK _ ?_
  clear hK
  refine wpIdle_nil ?_
  rintro _ ⟨nr, rfl⟩
  have k2 := k1.dN nr
  have o2 := o1.drewN nr
  have r2 := r1.drewN nr
  have q2 : (w1.drewN nr).heap[c]? = _ := Q1.out
  generalize w1.drewN nr = w2 at k2 o2 r2 q2 ⊢
  have hne := o2.ne q2 (by decide)
  clear z0 z2 p0 Q1 o1 r1
  have Q2 := Lib.hid q2
  clear q2
  refine wpList_append_Own rfl _ _ 22 22 rfl 5 i0 (.int .u8 0) 1 1 Tryz.underlying22 hi hz0 hz1 hz2 rfl rfl o2 rfl (by exact Reads.src r2 Tryz.underlying22 (bv_one _)) (by unfold maxLen; omega) (by omega) ?_
  intro a5 k5 w5 g5 hown5 hk5 hg5
  have hA5 : w5.heap[c]? = _ := (hk5.block _ (lt_in Q2.out) (fun h => hne c h rfl)).trans Q2.out
  have f0 := frozen_in (k := 0) hA5
  have z5 := cell_in (k := 0) hA5
  have hl5 := lt_in hA5
  simp only [List.getElem?_toArray, List.getElem?_cons_zero] at z5
  have H5 := Lib.hid hA5
  clear hA5
  go_wp2
  have e9 : L.map bv ++ bs.map bv = (out ++ (leB 4 bs.length ++ bs)).map bv := by rw [← List.append_assoc, ← HL.out, List.map_append]
  have e8 : L.length + bs.length = (out ++ (leB 4 bs.length ++ bs)).length := by rw [← List.append_assoc, ← HL.out, List.length_append]
  have K5 : Kept (fun k => k = c ∨ g = some k) w w5 := k2.thn hk5 (fun i hi => by
    rcases hg1 i hi with h | h
    · exact .inl (.inr h)
    · exact .inr h)
  have hg5' : ∀ k, g5 = some k → g = some k ∨ w.heap.size ≤ k := fun k hk => by
    rcases hg5 k hk with h | h
    · exact hg1 k h
    · have := k2.size; exact .inr (by omega)
  have hne5 := hown5.ne H5.out (by decide)
  rw [e9] at hown5
  refine bodyPost_ret (v := .tuple #[]) (by simp [results, Tryz.results139]) rfl ⟨rfl, g5, ⟨_, heap_setCell_same (o := 0) H5.out _, ?_⟩, K5.st _ (.inl (.inl rfl)), hg5'⟩
  rw [e8] at hown5 ⊢
  exact hown5.kept (Kept.setCell (F := (· = c)) _ _ _ rfl) (fun k hk => hne5 k hk)
end Go.Proofs.YtmbjealliinpdaaGreat
end

section

namespace Go.Proofs.YtmbjealliinpdaaGreat
open Go.RowKit
theorem bytesWorld_kept (F : Nat → Prop) (w : World) (e : TypeId) (s : ByteArray) : Kept F w (Go.Lib.bytesWorld w e s) :=
  ⟨by simp [Go.Lib.bytesWorld, World.freeze, World.alloc, World.drew, -World.alloc_eq, -World.drew_eq], by simp [Go.Lib.bytesWorld, World.freeze, World.alloc, World.drew, -World.alloc_eq, -World.drew_eq], by simp [Go.Lib.bytesWorld, World.freeze, World.alloc, World.drew, -World.alloc_eq, -World.drew_eq],
    by rw [Go.Lib.bytesWorld_size]; omega, fun k hk _ => Go.Lib.bytesWorld_at_old w e s k hk⟩
theorem bytesWorld_reads (w : World) (e : TypeId) (s : ByteArray) (hs : s.size ≤ maxLen) : Reads (Go.Lib.bytesWorld w e s) 1 (.slice (some ⟨w.heap.size, 0, none⟩) s.size (grownCap w s.size 0 e)) s.data.toList.length (s.data.toList.map bv) (some w.heap.size) := by
  have hl : s.data.toList.length = s.size := by simp
  refine ⟨by simp, .inr ⟨w.heap.size, 0, _, rfl, by rw [hl], by rw [hl]; exact grownCap_ge w s.size 0 e, grownCap_le_maxLen w s.size 0 e hs, fun j hj => ?_⟩⟩
  rw [List.length_map, hl] at hj
  rw [Nat.zero_add, Go.Lib.bytesWorld_cell w e s j hj, List.getElem?_map, List.getElem?_eq_getElem (by rw [hl]; exact hj)]
  simp [bv, List.getD, hj]
theorem textWrite_c {w : World} {c p : Nat} {out : List UInt8} {g : Option Nat} (h : Writes w c out g) {s : ByteArray} (hp : w.heap[p]? = some (.cells #[.string s] 9)) (hm : out.length + s.size ≤ 140737488353500) :
    Calls Tryz.prog 78 #[.pointer (some ⟨c, 0, none⟩), .pointer (some ⟨p, 0, none⟩)] w fun e w' => e = .returned (.tuple #[]) ∧ ∃ g', Writes w' c (out ++ (leB 4 s.size ++ s.data.toList)) g' ∧ Kept (fun k => k = c ∨ k = p ∨ g = some k) w w' ∧ ∀ k, g' = some k → g = some k ∨ w.heap.size ≤ k := by
  have p0 : w.cell? ⟨p, 0, none⟩ = some (.string s) := cell_in hp
  have hlp := lt_in hp
  have HP := Lib.hid hp
  have hpc : p ≠ c := fun e => by
    obtain ⟨vo, h1, -⟩ := h.ex
    rw [e] at hp
    rw [h1] at hp
    have := congrArg (fun o => match o with | some (Obj.cells _ t _) => t | _ => 0) hp
    simp at this
  have hpg : ∀ k, g = some k → k ≠ p := by
    obtain ⟨vo, -, h2⟩ := h.ex
    exact h2.ne hp (by decide)
  have hlc : c < w.heap.size := by
    obtain ⟨vo, h1, -⟩ := h.ex
    exact lt_in h1
  have hlg : ∀ k, g = some k → k < w.heap.size := by
    obtain ⟨vo, -, h2⟩ := h.ex
    exact h2.lt
  clear hp
  have hcv := Go.Lib.run_convert_string_bytes (P := Tryz.prog) w 9 22 5 s Tryz.underlying9 Tryz.underlying22 Tryz.underlying5
  have hKB := bytesWorld_kept (fun _ => False) w 5 s
  have hRB := bytesWorld_reads w 5 s (by unfold maxLen; omega)
  have hSB := Go.Lib.bytesWorld_size w 5 s
  generalize Go.Lib.bytesWorld w 5 s = wb at hcv hKB hRB hSB
  obtain ⟨cap, hcap⟩ : ∃ cap, cap = grownCap w s.size 0 5 := ⟨_, rfl⟩
  rw [← hcap] at hcv hRB
  have hlen : s.data.toList.length = s.size := by simp
  rw [hlen] at hRB
  clear hcap
  go_enter Tryz.func78, Tryz.ntmps78
  go_wp2_with fail
  have x1 : (wb.alloc (Obj.cells #[Value.slice (some ⟨w.heap.size, 0, none⟩) s.size cap] 22)).heap[wb.heap.size]? = some (Obj.cells #[Value.slice (some ⟨w.heap.size, 0, none⟩) s.size cap] 22) := heap_alloc_new' _ _
  rw [hSB] at x1
  have k1 : Kept (fun _ => False) w (wb.alloc (Obj.cells #[Value.slice (some ⟨w.heap.size, 0, none⟩) s.size cap] 22)) := hKB.al _
  have r1 := hRB.kept (Kept.alloc (fun _ => False) wb (Obj.cells #[Value.slice (some ⟨w.heap.size, 0, none⟩) s.size cap] 22)) (fun _ _ h => h)
  have s1 : (wb.alloc (Obj.cells #[Value.slice (some ⟨w.heap.size, 0, none⟩) s.size cap] 22)).heap.size = w.heap.size + 1 + 1 := by simp [hSB]
  generalize wb.alloc (Obj.cells #[Value.slice (some ⟨w.heap.size, 0, none⟩) s.size cap] 22) = w1 at x1 k1 r1 s1 ⊢
  have h1 := h.kept k1 (fun h => h) (fun _ _ h => h)
  refine (bytesWrite_c h1 (bs := s.data.toList) (gb := some w.heap.size) x1 (by rw [hlen]; exact r1) (fun k hk => ⟨by simp at hk; omega, fun hg => by simp at hk; have := hlg k hg; omega⟩) (by rw [hlen]; exact hm)).mono ?_
  rintro e w2 ⟨rfl, g2, hw2, k2, hg2⟩
  rw [hlen] at hw2
  have x2 : w2.heap[w.heap.size + 1]? = _ := (k2.block _ (lt_in x1) (fun h => by rcases h with h | h; omega; have := hlg _ h; omega)).trans x1
  have r2 := r1.kept k2 (fun k hk h => by simp at hk; rcases h with h | h; omega; have := hlg _ h; omega)
  have hst := Reads.string_run (P := Tryz.prog) r2 Tryz.underlying22 Tryz.underlying5 Tryz.underlying9
  have hss : (⟨s.data.toList.toArray⟩ : ByteArray) = s := by simp
  rw [hss] at hst
  have hp2 : w2.heap[p]? = _ := (k2.block _ (by omega) (fun h => by rcases h with h | h; exact hpc h; exact hpg p h rfl)).trans ((k1.block _ hlp (fun h => h)).trans HP.out)
  have z1 : w2.cell? ⟨w.heap.size + 1, 0, none⟩ = some (.slice (some ⟨w.heap.size, 0, none⟩) s.size cap) := cell_in x2
  have l1 := lt_in x2
  have z2 : w2.cell? ⟨p, 0, none⟩ = some (.string s) := cell_in hp2
  have l2 := lt_in hp2
  have f2 : w2.frozen? ⟨p, 0, none⟩ = false := frozen_in hp2
  have hgp : ∀ k, g2 = some k → k ≠ p := fun k hk => by
    obtain ⟨vo, -, o2⟩ := hw2.ex
    exact o2.ne hp2 (by decide) k hk
  clear x1 x2 hp2 r1 r2 p0 hcv
  go_wp2
  have K3 : Kept (fun k => k = c ∨ k = p ∨ g = some k) w (w2.setCell ⟨p, 0, none⟩ (.string s)) := ((k1.mono (G := fun k => k = c ∨ k = p ∨ g = some k) (fun _ _ h => h.elim)).thn k2 (fun i hi => by
    rcases hi with h | h
    · exact .inl (.inl h)
    · exact .inl (.inr (.inr h)))).st _ (.inl (.inr (.inl rfl)))
  refine bodyPost_end (v := .tuple #[]) (by simp [results, Tryz.results78]) rfl ⟨rfl, g2, hw2.kept (Kept.setCell (F := (· = p)) _ _ _ rfl) (fun h => hpc h.symm) (fun k hk h => hgp k hk h), K3, fun k hk => ?_⟩
  rcases hg2 k hk with h | h
  · exact .inl h
  · exact .inr (by omega)
end Go.Proofs.YtmbjealliinpdaaGreat
end

section

namespace Go.Proofs.YtmbjealliinpdaaGreat
open Go.RowKit
/-- Texts in bytes. -/
def encT (s : ByteArray) : List UInt8 := leB 4 s.size ++ s.data.toList
def encTs (ss : List ByteArray) : List UInt8 := ss.flatMap encT
/-- An element of a slice of one-cell things. -/
theorem Reads.one {α : Type} {f : α → Value} {w : World} {a : Option Addr} {c : Nat} {l : List α} {g : Option Nat} (h : Reads w 1 (.slice a l.length c) l.length (l.map f) g) {k : Nat} (hk : k < l.length) :
    ∃ b off, g = some b ∧ a = some ⟨b, off, none⟩ ∧ w.cell? ⟨b, off + k, none⟩ = some (f l[k]) := by
  obtain ⟨h0, ⟨a', c', he, hx⟩ | ⟨b, off, c', rfl, he, h1, h2, h3⟩⟩ := h
  · omega
  · simp only [Value.slice.injEq, true_and] at he
    obtain ⟨rfl, rfl⟩ := he
    refine ⟨b, off, rfl, rfl, ?_⟩
    rw [h3 k (by simpa using hk), List.getElem?_map, List.getElem?_eq_getElem hk]
    rfl
theorem encTs_take (ss : List ByteArray) (k : Nat) (hk : k < ss.length) : encTs (ss.take (k + 1)) = encTs (ss.take k) ++ encT ss[k] := by
  unfold encTs
  rw [List.take_succ_eq_append_getElem hk, List.flatMap_append]
  simp
theorem encTs_le (ss : List ByteArray) (k : Nat) : (encTs (ss.take k)).length ≤ (encTs ss).length := by
  have h : encTs ss = encTs (ss.take k) ++ encTs (ss.drop k) := by
    unfold encTs
    rw [← List.flatMap_append, List.take_append_drop]
  rw [h, List.length_append]
  omega
theorem listWrite_c {w : World} {c p : Nat} {out : List UInt8} {g : Option Nat} (h : Writes w c out g) {v : Value} {ss : List ByteArray} {gs : Option Nat} (hp : w.heap[p]? = some (.cells #[v] 46)) (hr : Reads w 1 v ss.length (ss.map Value.string) gs) (hgs : ∀ k, gs = some k → k ≠ c ∧ g ≠ some k ∧ k < w.heap.size) (hn : ss.length ≤ 140737488354500) (hm : out.length + (encTs ss).length ≤ 140737488352000) :
    Calls Tryz.prog 77 #[.pointer (some ⟨c, 0, none⟩), .pointer (some ⟨p, 0, none⟩), .func (.func 78) #[.pointer (some ⟨c, 0, none⟩)] #[]] w fun e w' => e = .returned (.tuple #[]) ∧ Wrote w w' c out g (leB 4 ss.length ++ encTs ss) := by
  obtain ⟨a, cp, rfl, hc⟩ := hr.shape
  have p0 : w.cell? ⟨p, 0, none⟩ = some (.slice a ss.length cp) := cell_in hp
  have hlp := lt_in hp
  have hpc : p ≠ c := fun e => by
    obtain ⟨vo, h1, -⟩ := h.ex
    rw [e] at hp
    rw [h1] at hp
    have := congrArg (fun o => match o with | some (Obj.cells _ t _) => t | _ => 0) hp
    simp at this
  have hpg : ∀ k, g = some k → k ≠ p := by
    obtain ⟨vo, -, h2⟩ := h.ex
    exact h2.ne hp (by decide)
  have hlc : c < w.heap.size := by
    obtain ⟨vo, h1, -⟩ := h.ex
    exact lt_in h1
  have HP := Lib.hid hp
  clear hp
  go_enter Tryz.func77, Tryz.ntmps77
  go_wp2_with fail
  refine (countWrite_c h ss.length (by omega) (by omega)).mono ?_
  rintro e w1 ⟨rfl, g1, hw1, k1, hg1⟩
  have c2 : w1.cell? ⟨c, 2, none⟩ = some (.bool false) := by
    obtain ⟨vo, h1, -⟩ := hw1.ex
    exact cell_in h1
  have hl1 : c < w1.heap.size := by
    obtain ⟨vo, h1, -⟩ := hw1.ex
    exact lt_in h1
  clear p0
  go_wp2
  go_loopw [22] (fun i w' => ∃ k : Nat, k ≤ ss.length ∧ i = .int .i64 k ∧ Wrote w w' c out g (leB 4 ss.length ++ encTs (ss.take k))) (fun i _ => ss.length - (intOf i).toNat)
  case atStart => exact ⟨0, by omega, rfl, g1, by simpa [encTs] using hw1, k1, hg1⟩
  case round =>
    obtain ⟨k, hk, rfl, g2, hw2, k2, hg2⟩ := hrel
    by_cases hk2 : k < ss.length
    · have hki : (k : Int) < (ss.length : Int) := by omega
      have r2 := hr.kept k2 (fun k hk h => by
        rcases h with h | h
        · exact (hgs k hk).1 h
        · exact (hgs k hk).2.1 h)
      obtain ⟨b, off, rfl, rfl, hcell⟩ := r2.one hk2
      obtain ⟨s, hs⟩ : ∃ s, s = ss[k] := ⟨_, rfl⟩
      rw [← hs] at hcell
      have hp2 : wr.heap[p]? = _ := (k2.block _ hlp (fun h => by rcases h with h | h; exact hpc h; exact hpg p h rfl)).trans HP.out
      have p0 : wr.cell? ⟨p, 0, none⟩ = some (.slice (some ⟨b, off, none⟩) ss.length cp) := cell_in hp2
      have l2 := lt_in hp2
      clear hp2
      obtain ⟨L, hL⟩ : ∃ L, L = out ++ (leB 4 ss.length ++ encTs (ss.take k)) := ⟨_, rfl⟩
      rw [← hL] at hw2
      have hLe : L ++ (leB 4 s.size ++ s.data.toList) = out ++ (leB 4 ss.length ++ encTs (ss.take (k + 1))) := by
        rw [encTs_take ss k hk2, hL, ← hs, encT]
        simp only [List.append_assoc]
      have hLl : L.length + s.size ≤ 140737488352010 := by
        have h1 := encTs_le ss (k + 1)
        have h2 := congrArg List.length hLe
        simp only [List.length_append, leB_length] at h2
        have h3 : s.data.toList.length = s.size := by simp
        omega
      have HLe := Lib.hid hLe
      clear hL hLe hs
      go_wp2_with fail
      have x3 : (wr.alloc (Obj.cells #[Value.string s] 9)).heap[wr.heap.size]? = some (Obj.cells #[Value.string s] 9) := heap_alloc_new' _ _
      have hw3 := hw2.kept (Kept.alloc (fun _ => False) wr (Obj.cells #[Value.string s] 9)) (fun h => h) (fun _ _ h => h)
      have k3 := k2.al (Obj.cells #[Value.string s] 9)
      have s3 : (wr.alloc (Obj.cells #[Value.string s] 9)).heap.size = wr.heap.size + 1 := by simp
      have s2 := k2.size
      generalize wr.alloc (Obj.cells #[Value.string s] 9) = w3 at x3 hw3 k3 s3 ⊢
      refine (textWrite_c hw3 x3 (by omega)).mono ?_
      rintro e w4 ⟨rfl, g4, hw4, k4, hg4⟩
      rw [HLe.out] at hw4
      have K4 : Kept (fun k => k = c ∨ g = some k) w w4 := k3.thn k4 (fun i hi => by
        rcases hi with h | h | h
        · exact .inl (.inl h)
        · exact .inr (by omega)
        · rcases hg2 i h with h | h
          · exact .inl (.inr h)
          · exact .inr h)
      have hg4' : ∀ k, g4 = some k → g = some k ∨ w.heap.size ≤ k := fun k hk => by
        rcases hg4 k hk with h | h
        · exact hg2 k h
        · exact .inr (by omega)
      have HW4 := Lib.hid hw4
      clear hw4
      go_wp2
      exact ⟨⟨k + 1, by omega, by simp, g4, HW4.out, K4, hg4'⟩, by simp [intOf]; omega⟩
    · obtain rfl : k = ss.length := by omega
      go_wp2
      rw [List.take_length] at hw2
      exact bodyPost_ret (v := .tuple #[]) (by simp [results, Tryz.results77]) rfl ⟨rfl, g2, hw2, k2, hg2⟩
theorem textsWrite_c {w : World} {c p : Nat} {out : List UInt8} {g : Option Nat} (h : Writes w c out g) {v : Value} {ss : List ByteArray} {gs : Option Nat} (hp : w.heap[p]? = some (.cells #[v] 46)) (hr : Reads w 1 v ss.length (ss.map Value.string) gs) (hgs : ∀ k, gs = some k → k ≠ c ∧ g ≠ some k ∧ k < w.heap.size) (hn : ss.length ≤ 140737488354500) (hm : out.length + (encTs ss).length ≤ 140737488352000) :
    Calls Tryz.prog 56 #[.pointer (some ⟨c, 0, none⟩), .pointer (some ⟨p, 0, none⟩)] w fun e w' => e = .returned (.tuple #[]) ∧ Wrote w w' c out g (leB 4 ss.length ++ encTs ss) := by
  have hmf : ∀ (fn : Fn) (first cap : Array Value) (w : World), (Instr.makeFunc fn first cap).run Tryz.prog w = .ok (.func fn first cap) w := fun _ _ _ _ => rfl
  go_enter Tryz.func56, Tryz.ntmps56
  go_wp2_with fail
  refine (listWrite_c h hp hr hgs hn hm).mono ?_
  rintro e w1 ⟨rfl, hw⟩
  go_wp2
  exact bodyPost_end (v := .tuple #[]) (by simp [results, Tryz.results56]) rfl ⟨rfl, hw⟩
theorem strings_c {w : World} {v : Value} {ss : List ByteArray} {gs : Option Nat} (hr : Reads w 1 v ss.length (ss.map Value.string) gs) (hgs : ∀ k, gs = some k → k < w.heap.size) (hn : ss.length ≤ 140737488354500) (hm : (encTs ss).length ≤ 140737488352000) :
    Calls Tryz.prog 59 #[v] w fun e w' => (∃ vc, e = .returned vc ∧ Fresh w w' vc (leB 4 ss.length ++ encTs ss)) ∧ Kept (fun _ => False) w w' := by
  obtain ⟨R, hR⟩ : ∃ R, R = leB 4 ss.length ++ encTs ss := ⟨_, rfl⟩
  rw [← hR]
  have HR := Lib.hid hR
  clear hR
  obtain ⟨a, cp, rfl, hc⟩ := hr.shape
  have key : Calls Tryz.prog 133 #[.slice a ss.length cp, .func (.func 56) #[] #[]] w fun e w' => (∃ vc, e = .returned vc ∧ Fresh w w' vc R) ∧ Kept (fun _ => False) w w' := by
    go_enter Tryz.func133, Tryz.ntmps133
    go_wp2_with fail
    obtain ⟨K0, x1, x2⟩ := two_new w (Obj.cells #[Value.slice a ss.length cp] 46) (Obj.cells #[Value.slice none 0 0, Value.slice none 0 0, Value.bool false] 138)
    generalize (w.alloc (Obj.cells #[Value.slice a ss.length cp] 46)).alloc (Obj.cells #[Value.slice none 0 0, Value.slice none 0 0, Value.bool false] 138) = w0 at K0 x1 x2 ⊢
    have hw0 : Writes w0 (w.heap.size + 1) [] none := ⟨_, x2, Own.nil _ _ _⟩
    refine (textsWrite_c hw0 x1 (hr.kept K0 (fun _ _ h => h)) (fun k hk => ⟨by have := hgs k hk; omega, by simp, by have := hgs k hk; have := K0.size; omega⟩) hn (by simpa using hm)).mono ?_
    rintro e w1 ⟨rfl, g1, hw1, k1, hg1⟩
    obtain ⟨vo, q1, o1⟩ := hw1.ex
    rw [List.nil_append, ← HR.out] at o1
    have z0 : w1.cell? ⟨w.heap.size + 1, 0, none⟩ = some vo := cell_in q1
    have hl := lt_in q1
    have hs := lt_in x2
    obtain ⟨a1, c1, rfl, -, -⟩ := o1.shape
    have HO := Lib.hid o1
    clear q1 x1 x2 o1
    go_wp2
    go_ret
    refine ⟨⟨_, rfl, g1, HO.out, fun k hk => ?_⟩, K0.thn k1 (fun i hi => ?_)⟩
    · rcases hg1 k hk with h | h
      · cases h
      · omega
    · rcases hi with h | h
      · exact .inr (by omega)
      · cases h
  go_enter Tryz.func59, Tryz.ntmps59
  go_wp2_with fail
  refine key.mono ?_
  rintro e w1 ⟨⟨vc, rfl, hf⟩, hk⟩
  go_wp2
  go_ret
  exact ⟨⟨_, rfl, hf⟩, hk⟩
end Go.Proofs.YtmbjealliinpdaaGreat
end

section

namespace Go.Proofs.YtmbjealliinpdaaGreat
open Go.RowKit
/-- Cells of a variable: from place o of block p on. -/
structure Var (w : World) (p o : Nat) (cs : List Value) : Prop where
  ex : ∃ cur t, w.heap[p]? = some (.cells cur t) ∧ t ≠ 138 ∧ t ≠ 5 ∧ ∀ f, f < cs.length → cur[o + f]? = cs[f]?
theorem Var.cell {w : World} {p o : Nat} {cs : List Value} (h : Var w p o cs) {f : Nat} (hf : f < cs.length) : w.cell? ⟨p, o + f, none⟩ = some cs[f] := by
  obtain ⟨cur, t, h1, -, -, h2⟩ := h.ex
  rw [cell_in h1, h2 f hf, List.getElem?_eq_getElem hf]
theorem Var.frozen {w : World} {p o k : Nat} {cs : List Value} (h : Var w p o cs) : w.frozen? ⟨p, k, none⟩ = false := by
  obtain ⟨cur, t, h1, -⟩ := h.ex
  exact frozen_in h1
theorem Var.lt {w : World} {p o : Nat} {cs : List Value} (h : Var w p o cs) : p < w.heap.size := by
  obtain ⟨cur, t, h1, -⟩ := h.ex
  exact lt_in h1
theorem Var.heap {w w' : World} {p o : Nat} {cs : List Value} (h : Var w p o cs) (hk : w'.heap[p]? = w.heap[p]?) : Var w' p o cs := by
  obtain ⟨cur, t, h1, h2⟩ := h.ex
  exact ⟨cur, t, hk.trans h1, h2⟩
theorem Var.sub {w : World} {p o : Nat} {cs : List Value} (h : Var w p o cs) {i : Nat} {ds : List Value} (hd : ∀ f, f < ds.length → i + f < cs.length ∧ cs[i + f]? = ds[f]?) : Var w p (o + i) ds := by
  obtain ⟨cur, t, h1, h2, h3, h4⟩ := h.ex
  refine ⟨cur, t, h1, h2, h3, fun f hf => ?_⟩
  rw [Nat.add_assoc, h4 _ (hd f hf).1, (hd f hf).2]
theorem Var.ne {w : World} {p o c : Nat} {cs : List Value} {cur : Array Value} {fz : Nat × Nat} (h : Var w p o cs) (hc : w.heap[c]? = some (.cells cur 138 fz)) : p ≠ c := by
  rintro rfl
  obtain ⟨cur', t, h1, h2, -⟩ := h.ex
  rw [h1] at hc
  simp only [Option.some.injEq, Obj.cells.injEq] at hc
  exact h2 hc.2.1
theorem Var.neOwn {w : World} {p o n size : Nat} {cs l : List Value} {v : Value} {g : Option Nat} (h : Var w p o cs) (hw : Own w 5 size v n l g) : g ≠ some p := by
  obtain ⟨cur', t, h1, -, h3, -⟩ := h.ex
  exact fun hg => hw.ne h1 (fun e => h3 e.symm) p hg rfl
theorem Var.wrote {w w' : World} {p o c : Nat} {cs : List Value} {out more : List UInt8} {g : Option Nat} (h : Var w p o cs) (hw : Writes w c out g) (hk : Kept (fun k => k = c ∨ g = some k) w w') : Var w' p o cs := by
  obtain ⟨vo, h1, h2⟩ := hw.ex
  exact h.heap (hk.block _ h.lt (fun e => by
    rcases e with e | e
    · exact h.ne h1 e
    · exact h.neOwn h2 e))
/-- A store of what is there changes nothing. -/
theorem setCell_same' {w : World} {p k : Nat} {v : Value} (h : w.cell? ⟨p, k, none⟩ = some v) : w.setCell ⟨p, k, none⟩ v = w := by
  obtain ⟨heap, tape, drawn, os, outp⟩ := w
  simp only [World.cell?] at h
  simp only [World.setCell]
  congr 1
  apply Array.ext (by simp)
  intro i h1 h2
  rw [Array.getElem_modify]
  split
  · rename_i hi
    subst hi
    have hg : heap[p]? = some heap[p] := Array.getElem?_eq_getElem (by simpa using h2)
    rw [hg] at h
    cases ho : heap[p] with
    | cells cur t fz =>
      rw [ho] at h
      simp only [Option.isSome_none, Bool.false_eq_true, if_false]
      congr 1
      apply Array.ext (by simp)
      intro j h3 h4
      by_cases hj : k = j
      · subst hj
        rw [Array.getElem_setIfInBounds_self]
        simp at h
        rw [Array.getElem?_eq_getElem h4] at h
        simpa using h.symm
      · rw [Array.getElem_setIfInBounds_ne (by simpa using h3) hj]
    | _ => rfl
  · rfl
theorem wrap_u64 (n : Int) (h : in64 n) : IntKind.i64.wrap (n % 18446744073709551616) = n := by
  obtain ⟨h1, h2⟩ := h
  rw [IntKind.wrap_i64]
  omega
theorem numWrite_c {w : World} {c p o : Nat} {out : List UInt8} {g : Option Nat} (h : Writes w c out g) (n : Int) (hn : in64 n) (hv : Var w p o [.int .i64 n]) (hm : out.length ≤ 140737488354500) :
    Calls Tryz.prog 62 #[.pointer (some ⟨c, 0, none⟩), .pointer (some ⟨p, o, none⟩)] w fun e w' => e = .returned (.tuple #[]) ∧ Wrote w w' c out g (encI n) := by
  have z0 : w.cell? ⟨p, o, none⟩ = some (.int .i64 n) := hv.cell (f := 0) (by simp)
  have hlp := hv.lt
  obtain ⟨V, hV⟩ : ∃ V : Nat, V = u64 n := ⟨_, rfl⟩
  have hVl : V < 18446744073709551616 := by rw [hV]; exact u64_lt n
  have e1 : n % 18446744073709551616 = (V : Int) := by rw [hV]; exact (u64_eq n).symm
  have e1' : IntKind.u64.wrap n = (V : Int) := by rw [← e1]; simp [IntKind.wrap, IntKind.bits, IntKind.signed]
  have e2 : IntKind.i64.wrap (V : Int) = n := by rw [← e1]; exact wrap_u64 n hn
  have HV : Hid (encI n = leB 8 V) := Lib.hid (by rw [hV]; rfl)
  clear hV
  rw [HV.out]
  go_enter Tryz.func62, Tryz.ntmps62
  go_wp2_with fail
  refine (wordWrite_c h V 8 hVl (by omega) hm).mono ?_
  rintro e w1 ⟨rfl, hw⟩
  have hW := hw
  obtain ⟨g1, hw1, k1, -⟩ := hw
  have hv1 := hv.wrote (more := []) h k1
  have z1 : w1.cell? ⟨p, o, none⟩ = some (.int .i64 n) := hv1.cell (f := 0) (by simp)
  have f1 : w1.frozen? ⟨p, o, none⟩ = false := hv1.frozen
  have l1 := hv1.lt
  have e3 := setCell_same' z1
  have HW := Lib.hid hW
  clear hW z0 e1 e1'
  go_wp2
  exact bodyPost_end (v := .tuple #[]) (by simp [results, Tryz.results62]) rfl ⟨rfl, HW.out⟩
/-- Written once more. -/
theorem Wrote.more {w w1 w2 : World} {c : Nat} {out m1 m2 : List UInt8} {g g1 : Option Nat} (hk1 : Kept (fun k => k = c ∨ g = some k) w w1) (hg1 : ∀ k, g1 = some k → g = some k ∨ w.heap.size ≤ k) (h2 : Wrote w1 w2 c (out ++ m1) g1 m2) : Wrote w w2 c out g (m1 ++ m2) := by
  obtain ⟨g2, o2, k2, hg2⟩ := h2
  have h0 := hk1.size
  refine ⟨g2, by rw [← List.append_assoc]; exact o2, hk1.thn k2 (fun i hi => ?_), fun k hk => ?_⟩
  · rcases hi with hi | hi
    · exact .inl (.inl hi)
    · rcases hg1 i hi with h | h
      · exact .inl (.inr h)
      · exact .inr h
  · rcases hg2 k hk with h | h
    · exact hg1 k h
    · exact .inr (by omega)
/-- A number's place and value. -/
structure Place where
  p : Nat
  o : Nat
  n : Int
def Place.ptr (q : Place) : Value := .pointer (some ⟨q.p, q.o, none⟩)
def Place.enc (q : Place) : List UInt8 := encI q.n
theorem numsWrite_c {w : World} {c : Nat} {out : List UInt8} {g : Option Nat} (h : Writes w c out g) {v : Value} {ps : List Place} {gp : Option Nat} (hr : Reads w 1 v ps.length (ps.map Place.ptr) gp) (hgp : ∀ k, gp = some k → k ≠ c ∧ g ≠ some k) (hv : ∀ q ∈ ps, Var w q.p q.o [.int .i64 q.n] ∧ in64 q.n) (hl : ps.length ≤ 100) (hm : out.length ≤ 140737488353500) :
    Calls Tryz.prog 64 #[.pointer (some ⟨c, 0, none⟩), v] w fun e w' => e = .returned (.tuple #[]) ∧ Wrote w w' c out g (ps.flatMap Place.enc) := by
  obtain ⟨a, cp, rfl, hc⟩ := hr.shape
  go_enter Tryz.func64, Tryz.ntmps64
  go_wp2
  go_loopw [8] (fun i w' => ∃ k : Nat, k ≤ ps.length ∧ i = .int .i64 k ∧ Wrote w w' c out g ((ps.take k).flatMap Place.enc)) (fun i _ => ps.length - (intOf i).toNat)
  case atStart => exact ⟨0, by omega, rfl, g, by simpa using h, Kept.refl _ _, fun k hk => .inl hk⟩
  case round =>
    obtain ⟨k, hk, rfl, g1, hw1, k1, hg1⟩ := hrel
    by_cases hk2 : k < ps.length
    · have hki : (k : Int) < (ps.length : Int) := by omega
      have r1 := hr.kept k1 (fun k hk hh => by
        rcases hh with hh | hh
        · exact (hgp k hk).1 hh
        · exact (hgp k hk).2 hh)
      obtain ⟨b, off, rfl, rfl, hcell⟩ := r1.one hk2
      obtain ⟨q, hq⟩ : ∃ q, q = ps[k] := ⟨_, rfl⟩
      have hqm : q ∈ ps := by rw [hq]; exact List.getElem_mem hk2
      have hvq := (hv q hqm).1.wrote (more := []) h k1
      have hft := flatMap_take Place.enc ps k hk2
      rw [← hq] at hcell hft
      have hlen : ((ps.take k).flatMap Place.enc).length ≤ 800 := by
        have h1 : ∀ l : List Place, (l.flatMap Place.enc).length = 8 * l.length := by
          intro l
          induction l with
          | nil => rfl
          | cons a r ih => rw [List.flatMap_cons, List.length_append, ih, Place.enc, encI_length, List.length_cons]; omega
        rw [h1, List.length_take]
        omega
      obtain ⟨p, o, n⟩ := q
      simp only [Place.ptr] at hcell
      simp only [Place.enc] at hft
      simp only at hvq
      have hin : in64 n := (hv _ hqm).2
      have HFT := Lib.hid hft
      have HW1 := Lib.hid hw1
      clear hft hq hqm
      go_wp2_with fail
      refine (numWrite_c HW1.out n hin hvq (by rw [List.length_append]; omega)).mono ?_
      rintro e w2 ⟨rfl, hw2⟩
      have hw3 := Wrote.more k1 hg1 hw2
      rw [← HFT.out] at hw3
      have HW3 := Lib.hid hw3
      clear hw3 hw2
      go_wp2
      exact ⟨⟨k + 1, by omega, by simp, HW3.out⟩, by simp [intOf]; omega⟩
    · obtain rfl : k = ps.length := by omega
      go_wp2
      rw [List.take_length] at hw1
      exact bodyPost_end (v := .tuple #[]) (by simp [results, Tryz.results64]) rfl ⟨rfl, g1, hw1, k1, hg1⟩
theorem flagWrite_c {w : World} {c p o : Nat} {out : List UInt8} {g : Option Nat} (h : Writes w c out g) (b : Bool) (hv : Var w p o [.bool b]) (hm : out.length ≤ 140737488354500) :
    Calls Tryz.prog 140 #[.pointer (some ⟨c, 0, none⟩), .pointer (some ⟨p, o, none⟩)] w fun e w' => e = .returned (.tuple #[]) ∧ Wrote w w' c out g (bB b) := by
  have z0 : w.cell? ⟨p, o, none⟩ = some (.bool b) := hv.cell (f := 0) (by simp)
  have hlp := hv.lt
  cases b with
  | true =>
    go_enter Tryz.func140, Tryz.ntmps140
    go_wp2_with fail
    refine (wordWrite_c h 1 1 (by omega) (by omega) hm).mono ?_
    rintro e w1 ⟨rfl, hw⟩
    have hW := hw
    obtain ⟨g1, hw1, k1, -⟩ := hw
    have hv1 := hv.wrote (more := []) h k1
    have z1 : w1.cell? ⟨p, o, none⟩ = some (.bool true) := hv1.cell (f := 0) (by simp)
    have f1 : w1.frozen? ⟨p, o, none⟩ = false := hv1.frozen
    have l1 := hv1.lt
    have e3 := setCell_same' z1
    have HW := Lib.hid hW
    clear hW z0
    go_wp2
    exact bodyPost_end (v := .tuple #[]) (by simp [results, Tryz.results140]) rfl ⟨rfl, HW.out⟩
  | false =>
    go_enter Tryz.func140, Tryz.ntmps140
    go_wp2_with fail
    refine (wordWrite_c h 0 1 (by omega) (by omega) hm).mono ?_
    rintro e w1 ⟨rfl, hw⟩
    have hW := hw
    obtain ⟨g1, hw1, k1, -⟩ := hw
    have hv1 := hv.wrote (more := []) h k1
    have z1 : w1.cell? ⟨p, o, none⟩ = some (.bool false) := hv1.cell (f := 0) (by simp)
    have f1 : w1.frozen? ⟨p, o, none⟩ = false := hv1.frozen
    have l1 := hv1.lt
    have e3 := setCell_same' z1
    have HW := Lib.hid hW
    clear hW z0
    go_wp2
    exact bodyPost_end (v := .tuple #[]) (by simp [results, Tryz.results140]) rfl ⟨rfl, HW.out⟩
end Go.Proofs.YtmbjealliinpdaaGreat
end
