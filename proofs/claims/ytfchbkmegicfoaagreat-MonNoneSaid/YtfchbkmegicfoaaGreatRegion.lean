/- A region that draws its order: some moves, then operations that only read (and may draw), then a tail whose order is forced: one walk of the lexical order serves every order. -/
import Derived.WalkKit
import Derived.Deep.QuietTactic
import Derived.BigQuiet
import Derived.StillTailTactics
set_option linter.unusedSimpArgs false
namespace Go.Proofs.YtfchbkmegicfoaaGreat
open Go.RowKit

section
variable {P : Program} {ops : Array Oper} {md : Region.Mode} {C : World → Prop}

/-- Which operations wait for operation k, by however many steps. -/
def behindOf (md : Region.Mode) (ops : Array Oper) (k : Nat) : Nat → List Bool
  | 0 => []
  | i + 1 =>
    let b := behindOf md ops k i
    b ++ [decide (i = k) || (match ops[i]? with | some o => o.after.any (fun e => Region.binds md e && decide (e.on < i) && b.getD e.on false) | none => false)]

theorem behindOf_length (md : Region.Mode) (ops : Array Oper) (k : Nat) : ∀ n, (behindOf md ops k n).length = n
  | 0 => rfl
  | n + 1 => by simp [behindOf, behindOf_length md ops k n]

theorem behindOf_spec (md : Region.Mode) (ops : Array Oper) (k : Nat) : ∀ (n i : Nat), (behindOf md ops k n).getD i false = true →
    i = k ∨ ∃ o, ops[i]? = some o ∧ ∃ e ∈ o.after, Region.binds md e = true ∧ e.on < i ∧ (behindOf md ops k i).getD e.on false = true
  | 0, i, h => by simp [behindOf] at h
  | n + 1, i, h => by
    rcases Nat.lt_trichotomy i n with hi | hi | hi
    · refine behindOf_spec md ops k n i ?_
      simp only [behindOf, List.getD_eq_getElem?_getD] at h
      rw [List.getElem?_append_left (by rw [behindOf_length]; exact hi)] at h
      simpa [List.getD_eq_getElem?_getD] using h
    · subst hi
      simp only [behindOf, List.getD_eq_getElem?_getD] at h
      rw [List.getElem?_append_right (by rw [behindOf_length]; exact Nat.le_refl _), behindOf_length, Nat.sub_self] at h
      simp only [List.getElem?_cons_zero, Option.getD_some, Bool.or_eq_true, decide_eq_true_eq] at h
      rcases h with h | h
      · exact .inl h
      · cases ho : ops[i]? with
        | none => rw [ho] at h; cases h
        | some o =>
          rw [ho] at h
          obtain ⟨e, he, hb⟩ := Array.any_eq_true'.1 h
          simp only [Bool.and_eq_true, decide_eq_true_eq] at hb
          exact .inr ⟨o, rfl, e, he, hb.1.1, hb.1.2, by simpa [List.getD_eq_getElem?_getD] using hb.2⟩
    · have : (behindOf md ops k (n + 1))[i]? = none := List.getElem?_eq_none (by rw [behindOf_length]; omega)
      rw [List.getD_eq_getElem?_getD, this] at h
      cases h

/-- What has come up is closed: all that it waits for has come up too. -/
def Closed (md : Region.Mode) (ops : Array Oper) (listed : Array Bool) : Prop :=
  ∀ j oj, ops[j]? = some oj → listed.getD j false = true → ∀ e ∈ oj.after, Region.binds md e = true → listed.getD e.on false = true

theorem Closed.set {listed : Array Bool} {i : Nat} (h : Closed md ops listed) (hi : i ∈ Region.ready md ops listed) : Closed md ops (listed.setIfInBounds i true) := by
  obtain ⟨_, oi, hoi, hall⟩ := mem_ready.1 hi
  intro j oj hj hl e he hb
  by_cases hij : i = j
  · subst hij
    have : oj = oi := Option.some.inj (hj.symm.trans hoi)
    subst this
    exact getD_set_true (hall e he hb)
  · rw [getD_set_ne false hij] at hl
    exact getD_set_true (h j oj hj hl e he hb)

theorem unlisted_of_behind {listed : Array Bool} {k : Nat} (hc : Closed md ops listed) (hk : listed.getD k false = false) : ∀ (i n : Nat), (behindOf md ops k n).getD i false = true → listed.getD i false = false := by
  intro i
  induction i using Nat.strongRecOn with
  | _ i ih =>
    intro n h
    rcases behindOf_spec md ops k n i h with rfl | ⟨o, ho, e, he, hb, hlt, hB⟩
    · exact hk
    · have h1 := ih e.on hlt i hB
      cases hl : listed.getD i false with
      | false => rfl
      | true =>
        have := hc i o ho hl e he hb
        rw [h1] at this
        cases this

theorem not_ready_of_behind {listed : Array Bool} {k : Nat} (hc : Closed md ops listed) (hk : listed.getD k false = false) {i n : Nat} (hne : i ≠ k) (h : (behindOf md ops k n).getD i false = true) : i ∉ Region.ready md ops listed := by
  intro hr
  rcases behindOf_spec md ops k n i h with rfl | ⟨o, ho, e, he, hb, hlt, hB⟩
  · exact hne rfl
  · obtain ⟨_, o', ho', hall⟩ := mem_ready.1 hr
    have : o' = o := Option.some.inj (ho'.symm.trans ho)
    subst this
    have h1 := unlisted_of_behind hc hk e.on i hB
    have h2 := hall e he hb
    rw [h1] at h2
    cases h2

/-- The head's phase, whatever order is picked. -/
def wpHead (P : Program) (md : Region.Mode) (ops : Array Oper) (C : World → Prop) (n : Nat) (L : Array Bool → Act → Prop) : Nat → Array Bool → Act → Prop
  | 0, listed, a => L listed a
  | f + 1, listed, a => Region.ready md ops listed ≠ [] ∧ ∀ i ∈ Region.ready md ops listed, i < n ∧ qOp P ops C i (wpHead P md ops C n L f (listed.setIfInBounds i true)) a

theorem wpAny_of_wpHead {n g : Nat} {L : Array Bool → Act → Prop} {Q : Exit → Act → World → Prop} (hL : ∀ listed a w, C w → L listed a → wpAny P md ops Q g listed a w) :
    ∀ (f : Nat) (listed : Array Bool) (a : Act) (w : World), C w → wpHead P md ops C n L f listed a → wpAny P md ops Q (f + g) listed a w
  | 0, listed, a, w, hw, h => by rw [Nat.zero_add]; exact hL _ _ _ hw h
  | f + 1, listed, a, w, hw, h => by
    rw [show f + 1 + g = (f + g) + 1 by omega]
    exact ⟨fun h0 => absurd h0 h.1, fun i hi => wpOp_of_qOp hw (fun a' w' hw' h' => wpAny_of_wpHead hL f _ a' w' hw' h') (h.2 i hi).2⟩

theorem getD_ff {listed : Array Bool} {i : Nat} (h : listed.getD i true = false) : listed.getD i false = false := by
  rcases Nat.lt_or_ge i listed.size with h' | h'
  · simp [h'] at h ⊢; exact h
  · simp [Array.getElem?_eq_none h'] at h

theorem wpHead_first {n i : Nat} {oi : Oper} {v : Value} {L : Array Bool → Act → Prop} (hi : ops[i]? = some oi) (hsel : ∀ (j : Nat) (o : Oper) cs b, ops[j]? = some o → o.op ≠ .select cs b)
    (hin : i < n) (hbe : ∀ j, n ≤ j → j < ops.size → (behindOf md ops i ops.size).getD j false = true)
    (hdone : ∀ listed a, L listed a → ∀ j ∈ Region.ready md ops listed, n ≤ j) :
    ∀ (f : Nat) (listed : Array Bool) (a : Act), Closed md ops listed →
      (∀ j oj, ops[j]? = some oj → j ≠ i → listed.getD j true = false → (∀ e ∈ oj.after, Region.binds md e = true → e.on ≠ i) → oi.apart ops oj = true) →
      i ∈ Region.ready md ops listed → YieldsIn P ops C oi v a →
      wpHead P md ops C n L f (listed.setIfInBounds i true) (a.put oi.dst v) → wpHead P md ops C n L (f + 1) listed a := by
  have small : ∀ (listed : Array Bool), Closed md ops listed → i ∈ Region.ready md ops listed → ∀ j ∈ Region.ready md ops listed, j < n := by
    intro listed hc hr j hj
    rcases Nat.lt_or_ge j n with h | h
    · exact h
    · obtain ⟨_, oj, hoj, _⟩ := mem_ready.1 hj
      have hlt : j < ops.size := (Array.getElem?_eq_some_iff.1 hoj).1
      exact absurd hj (not_ready_of_behind hc (getD_ff (mem_ready.1 hr).1) (by omega) (hbe j h hlt))
  intro f
  induction f with
  | zero =>
    intro listed a hc _ hr hy H
    refine ⟨fun h => (by rw [h] at hr; cases hr), fun j hj => ⟨small listed hc hr j hj, ?_⟩⟩
    by_cases hji : j = i
    · subst hji; exact hy.qOp hi H
    · have h1 := hdone _ _ H j (ready_mono hj hji)
      have h2 := small listed hc hr j hj
      omega
  | succ f ih =>
    intro listed a hc hfree hr hy H
    refine ⟨fun h => (by rw [h] at hr; cases hr), fun j hj => ⟨small listed hc hr j hj, ?_⟩⟩
    by_cases hji : j = i
    · subst hji; exact hy.qOp hi H
    · have h1 := (H.2 j (ready_mono hj hji)).2
      obtain ⟨hjun, oj, hoj, hall⟩ := mem_ready.1 hj
      have hnot : ∀ e ∈ oj.after, Region.binds md e = true → e.on ≠ i := fun e he hb heq => by
        have h1 := hall e he hb
        rw [heq, getD_ff (mem_ready.1 hr).1] at h1
        cases h1
      have h2 := qOp_put hoj (hfree j oj hoj hji hjun hnot) (fun cs b => hsel i oi cs b hi) (fun cs b => hsel j oj cs b hoj) hy h1
      have hfree' : ∀ k ok, ops[k]? = some ok → k ≠ i → (listed.setIfInBounds j true).getD k true = false →
          (∀ e ∈ ok.after, Region.binds md e = true → e.on ≠ i) → oi.apart ops ok = true := fun k ok hk hki hun hno => by
        refine hfree k ok hk hki ?_ hno
        by_cases hjk : j = k
        · subst hjk; exact hjun
        · rw [getD_set_ne true hjk] at hun; exact hun
      refine qOp_mono (fun a' h3 => ih (listed.setIfInBounds j true) a' (hc.set hj) hfree' (ready_mono hr (Ne.symm hji)) h3.1 ?_) h2
      rw [Array.setIfInBounds_comm _ _ hji]
      exact h3.2

/-- The head, in the lexical order. -/
def headB (md : Region.Mode) (ops : Array Oper) (n : Nat) : Nat → Nat → Array Bool → Bool
  | 0, k, listed => Region.seqB md ops (ops.size - n) k listed
  | f + 1, k, listed => (Region.ready md ops listed).contains k && Region.free md ops listed k && ((behindOf md ops k ops.size).drop n).all id && headB md ops n f (k + 1) (listed.setIfInBounds k true)

theorem wpHead_lex {n : Nat} {Lq : Act → Prop} (hsel : Region.noSelect ops = true) (hn : n ≤ ops.size) :
    ∀ (l : List Oper) (k : Nat) (listed : Array Bool) (a : Act), (∀ j, j < l.length → l[j]? = ops[k + j]?) → k + l.length = n → Closed md ops listed →
    headB md ops n l.length k listed = true → wpQuiet P ops C Lq l a →
    wpHead P md ops C n (fun listed' a' => Region.seqB md ops (ops.size - n) n listed' = true ∧ Lq a') l.length listed a
  | [], k, listed, a, _, hk, _, hB, h => by
    have : k = n := by simpa using hk
    subst this
    exact ⟨by simpa [headB] using hB, h⟩
  | o :: l, k, listed, a, hl, hk, hc, hB, h => by
    have h0 : ops[k]? = some o := by simpa using (hl 0 (by simp)).symm
    simp only [List.length_cons, headB, Bool.and_eq_true] at hB
    obtain ⟨⟨⟨hr, hf⟩, hbe⟩, hB'⟩ := hB
    have hkn : k < n := by simp only [List.length_cons] at hk; omega
    have hr' : k ∈ Region.ready md ops listed := by simpa using hr
    have hst : qOp P ops C k (wpQuiet P ops C Lq l) a := by unfold qOp; simp only [h0]; exact h
    obtain ⟨v, hy, hK⟩ := yieldsIn_of_qOp h0 hst
    have hbe' : ∀ j, n ≤ j → j < ops.size → (behindOf md ops k ops.size).getD j false = true := fun j h1 h2 => by
      have hlen := behindOf_length md ops k ops.size
      have h3 : j - n < ((behindOf md ops k ops.size).drop n).length := by rw [List.length_drop, hlen]; omega
      have := List.all_eq_true.1 hbe _ (List.getElem_mem h3)
      rw [List.getElem_drop] at this
      rw [List.getD_eq_getElem?_getD, List.getElem?_eq_getElem (by omega)]
      simpa [show n + (j - n) = j by omega] using this
    exact wpHead_first h0 (Region.noSelect_spec hsel) hkn hbe' (fun listed' a' hL => seqB_ready hL.1) l.length listed a hc (Region.free_spec h0 hf) hr' hy
      (wpHead_lex hsel hn l (k + 1) _ _ (fun j hj => by have := hl (j + 1) (by simp; omega); simpa [Nat.add_assoc, Nat.add_comm 1 j] using this) (by simp only [List.length_cons] at hk; omega) (hc.set hr') hB' hK)

/-- Is it a move without a guard? -/
def isMove (o : Oper) : Bool := match o.op, o.guard with | .move _, none => true | _, _ => false

theorem isMove_yields {o : Oper} (h : isMove o = true) (a : Act) : ∃ v, Yields P ops o v a ∧ ∀ (C : World → Prop) (K : Act → Prop) (w : World), C w → (if Region.wanted o (yielded ops a.tmps) then o.quiet P a C K else K (a.put o.dst undef)) → K (a.put o.dst v) := by
  obtain ⟨dst, op, ty, pos, after, guard⟩ := o
  simp only [isMove] at h
  split at h
  · rename_i x
    refine ⟨a.eval x, .inl ⟨by simp [Region.wanted], fun w => by simp [execOp, Sem.run_pure]⟩, ?_⟩
    intro C K w hw hh
    simp only [Region.wanted, if_true] at hh
    obtain ⟨v, hv, hK⟩ := hh
    have := hv w hw
    simp only [Oper.quietAt, execOp, Oper.quietUpon, Sem.run_pure, Sem.run_bind, Result.andThen_ok] at this
    obtain ⟨-, rfl⟩ := this
    exact hK
  · cases h

/-- The moves ahead, then the head. -/
def mixB (md : Region.Mode) (ops : Array Oper) (n : Nat) : Nat → Nat → Nat → Array Bool → Bool
  | 0, f, k, listed => headB md ops n f k listed
  | m + 1, f, k, listed => (match ops[k]? with | some o => isMove o | none => false) && (Region.ready md ops listed).contains k && Region.free md ops listed k && mixB md ops n m f (k + 1) (listed.setIfInBounds k true)

theorem wpAny_mix {Q : Exit → Act → World → Prop} (hQ : ∀ c (a : Act) d v w, Q (.panic c) (a.put d v) w → Q (.panic c) a w) {n : Nat} (hsel : Region.noSelect ops = true) (hn : n ≤ ops.size) (tl : List Oper)
    (htl : ∀ j, tl[j]? = ops[n + j]?) (htn : tl.length = ops.size - n) :
    ∀ (m : Nat) (l : List Oper) (k : Nat) (listed : Array Bool) (a : Act) (w : World), C w → (∀ j, j < l.length → l[j]? = ops[k + j]?) → k + l.length = n → Closed md ops listed → m ≤ l.length →
    mixB md ops n m (l.length - m) k listed = true → wpQuiet P ops C (fun a' => ∀ w', C w' → wpList P ops Q tl a' w') l a →
    wpAny P md ops Q (l.length + (ops.size - n)) listed a w
  | 0, l, k, listed, a, w, hw, hl, hk, hc, _, hB, h => by
    simp only [mixB, Nat.sub_zero] at hB
    refine wpAny_of_wpHead (C := C) (n := n) (L := fun listed' a' => Region.seqB md ops (ops.size - n) n listed' = true ∧ ∀ w', C w' → wpList P ops Q tl a' w') ?_ _ _ _ _ hw (wpHead_lex hsel hn l k listed a hl hk hc hB h)
    intro listed' a' w' hw' hL
    have := wpAny_of_seq (md := md) (Q' := Q) tl n listed' a' w' htl (by rw [htn]; exact hL.1) (hL.2 w' hw')
    rwa [htn] at this
  | m + 1, [], k, listed, a, w, _, _, _, _, hm, _, _ => by simp at hm
  | m + 1, o :: l, k, listed, a, w, hw, hl, hk, hc, hm, hB, h => by
    have h0 : ops[k]? = some o := by simpa using (hl 0 (by simp)).symm
    simp only [List.length_cons, mixB, h0, Bool.and_eq_true] at hB
    obtain ⟨⟨⟨hmv, hr⟩, hf⟩, hB'⟩ := hB
    rw [show l.length + 1 - (m + 1) = l.length - m by omega] at hB'
    have hr' : k ∈ Region.ready md ops listed := by simpa using hr
    obtain ⟨v, hy, hput⟩ := isMove_yields (P := P) (ops := ops) hmv a
    rw [show (o :: l).length + (ops.size - n) = (l.length + (ops.size - n)) + 1 by simp only [List.length_cons]; omega]
    refine wpAny_take h0 hsel hf hr (fun c a w => hQ c a _ _ w) hy ?_
    refine wpAny_mix hQ hsel hn tl htl htn m l (k + 1) _ _ w hw (fun j hj => by have := hl (j + 1) (by simp; omega); simpa [Nat.add_assoc, Nat.add_comm 1 j] using this) (by simp only [List.length_cons] at hk; omega) (hc.set hr') (by simp only [List.length_cons] at hm; omega) hB' ?_
    exact hput C _ w hw h

/-- The check of a whole region: m moves, a head up to n, a tail. -/
def regionB (ops : Array Oper) (m n : Nat) : Bool := Region.noSelect ops && decide (m ≤ n) && decide (n ≤ ops.size) && mixB .any ops n m (n - m) 0 (Array.replicate ops.size false)

/-- One walk of the lexical order serves every order. -/
theorem wp_region_mix {id : Nat} {Q : Exit → Act → World → Prop} {a : Act} {w : World} {l : List Oper} (m n : Nat) (hm : P.follows .mixedOrders = true) (hB : regionB l.toArray m n = true)
    (hQ : ∀ c (a : Act) d v w, Q (.panic c) (a.put d v) w → Q (.panic c) a w)
    (h : wpQuiet P l.toArray (fun w' => ∃ k, w' = w.drewN k) (fun a' => ∀ w', (∃ k, w' = w.drewN k) → wpList P l.toArray Q (l.drop n) a' w') (l.take n) a) : (Code.region id l.toArray true).wp P Q a w := by
  simp only [regionB, Bool.and_eq_true, decide_eq_true_eq] at hB
  obtain ⟨⟨⟨hsel, hmn⟩, hn⟩, hmix⟩ := hB
  refine wp_region_any hm ?_
  have hn' : n ≤ l.length := by simpa using hn
  have htl : (l.take n).length = n := by simp; omega
  have := wpAny_mix (P := P) (C := fun w' => ∃ k, w' = w.drewN k) (md := .any) hQ hsel hn (l.drop n) (fun j => by simp [List.getElem?_drop]) (by simp) m (l.take n) 0 (Array.replicate l.toArray.size false) a { w with drawn := w.drawn + 1 } ⟨1, rfl⟩
    (fun j hj => by
      have hj' : j < n := by rw [htl] at hj; exact hj
      simp [hj']) (by rw [htl]; omega) (fun j oj _ hl => by rw [getD_replicate_false] at hl; cases hl) (by rw [htl]; exact hmn) (by rw [htl]; exact hmix) h
  rw [htl, show n + (l.toArray.size - n) = l.toArray.size by omega] at this
  exact this

/-! ### The same with the order chosen: H reads, I hangs on no world, T is forced. -/

/-- The operations of these numbers. -/
def sel (l : List Oper) (is : List Nat) : List Oper := is.filterMap fun i => l[i]?

/-- Operation i, which hangs on no world. -/
def iOp (P : Program) (ops : Array Oper) (i : Nat) (K : Act → Prop) (a : Act) : Prop :=
  match ops[i]? with
  | none => K a
  | some o => if Region.wanted o (yielded ops a.tmps) then ∃ v, (∀ w, (execOp a.eval o).run P w = .ok (.value v) w) ∧ K (a.put o.dst v) else K (a.put o.dst undef)

/-- The walk over operations that hang on no world. -/
def wpIdle (P : Program) (ops : Array Oper) (Q : Act → Prop) : List Oper → Act → Prop
  | [], a => Q a
  | o :: rest, a => if Region.wanted o (yielded ops a.tmps) then ∃ v, (∀ w, (execOp a.eval o).run P w = .ok (.value v) w) ∧ wpIdle P ops Q rest (a.put o.dst v) else wpIdle P ops Q rest (a.put o.dst undef)

theorem wpIdle_nil {Q : Act → Prop} {a : Act} (h : Q a) : wpIdle P ops Q [] a := h
theorem wpIdle_step {Q : Act → Prop} {a : Act} {o : Oper} {rest : List Oper}
    (h : ∀ K : Act → Prop, (∀ a, wpIdle P ops Q rest a → K a) → if Region.wanted o (yielded ops a.tmps) then ∃ v, (∀ w, (execOp a.eval o).run P w = .ok (.value v) w) ∧ K (a.put o.dst v) else K (a.put o.dst undef)) : wpIdle P ops Q (o :: rest) a :=
  h _ (fun _ h => h)

theorem yields_of_iOp {i : Nat} {o : Oper} {a : Act} {K : Act → Prop} (hi : ops[i]? = some o) (h : iOp P ops i K a) : ∃ v, Yields P ops o v a ∧ K (a.put o.dst v) := by
  unfold iOp at h
  simp only [hi] at h
  by_cases hw : Region.wanted o (yielded ops a.tmps) = true
  · simp only [hw, if_true] at h
    obtain ⟨v, h1, h2⟩ := h
    exact ⟨v, .inl ⟨hw, h1⟩, h2⟩
  · simp only [hw] at h
    exact ⟨undef, .inr ⟨by simpa using hw, rfl⟩, h⟩

theorem yieldsIn_of_yields {o : Oper} {v : Value} {a : Act} (h : Yields P ops o v a) : YieldsIn P ops C o v a :=
  h.imp (fun ⟨hw, hv⟩ => ⟨hw, fun w _ => by unfold Oper.quietAt; rw [hv w]; exact ⟨rfl, rfl⟩⟩) id

/-- Whatever order is picked: the operations of T go by 'wpAny'. -/
def wpM (P : Program) (md : Region.Mode) (ops : Array Oper) (C : World → Prop) (Q : Exit → Act → World → Prop) (T : List Nat) : Nat → Array Bool → Act → Prop
  | 0, listed, a => ∀ w, C w → wpAny P md ops Q 0 listed a w
  | f + 1, listed, a => (Region.ready md ops listed = [] → ∀ w, C w → Q .normal a w) ∧ ∀ i ∈ Region.ready md ops listed,
      if i ∈ T then ∀ w, C w → wpOp P ops Q i (fun a' w' => wpAny P md ops Q f (listed.setIfInBounds i true) a' w') a w
      else qOp P ops C i (wpM P md ops C Q T f (listed.setIfInBounds i true)) a

theorem wpAny_of_wpM {Q : Exit → Act → World → Prop} {T : List Nat} : ∀ (f : Nat) (listed : Array Bool) (a : Act), wpM P md ops C Q T f listed a → ∀ w, C w → wpAny P md ops Q f listed a w
  | 0, _, _, h, w, hw => h w hw
  | f + 1, listed, a, h, w, hw => by
    refine ⟨fun h0 => h.1 h0 w hw, fun i hi => ?_⟩
    have h1 := h.2 i hi
    by_cases hT : i ∈ T
    · rw [if_pos hT] at h1
      exact h1 w hw
    · rw [if_neg hT] at h1
      exact wpOp_of_qOp hw (fun a' w' hw' h' => wpAny_of_wpM f _ a' h' w' hw') h1

theorem free_next {md : Region.Mode} {i : Nat} {oi : Oper} {listed : Array Bool} (hfree : ∀ j oj, ops[j]? = some oj → j ≠ i → listed.getD j true = false → (∀ e ∈ oj.after, Region.binds md e = true → e.on ≠ i) → oi.apart ops oj = true) {j : Nat} (hjun : listed.getD j true = false) :
    ∀ k ok, ops[k]? = some ok → k ≠ i → (listed.setIfInBounds j true).getD k true = false → (∀ e ∈ ok.after, Region.binds md e = true → e.on ≠ i) → oi.apart ops ok = true := fun k ok hk hki hun hno => by
  refine hfree k ok hk hki ?_ hno
  by_cases hjk : j = k
  · subst hjk; exact hjun
  · rw [getD_set_ne true hjk] at hun; exact hun

theorem not_on {md : Region.Mode} {i : Nat} {oj : Oper} {listed : Array Bool} (hun : listed.getD i true = false) (hall : ∀ e ∈ oj.after, Region.binds md e = true → listed.getD e.on false = true) :
    ∀ e ∈ oj.after, Region.binds md e = true → e.on ≠ i := fun e he hb heq => by
  have h1 := hall e he hb
  rw [heq, getD_ff hun] at h1
  cases h1

/-- One that hangs on no world may be taken first. -/
theorem wpM_firstI {Q : Exit → Act → World → Prop} {T : List Nat} {i : Nat} {oi : Oper} {v : Value} (hi : ops[i]? = some oi) (hsel : ∀ (j : Nat) (o : Oper) cs b, ops[j]? = some o → o.op ≠ .select cs b)
    (hQ : ∀ c (a : Act) d v w, Q (.panic c) (a.put d v) w → Q (.panic c) a w) (hiT : i ∉ T) :
    ∀ (f : Nat) (listed : Array Bool) (a : Act),
      (∀ j oj, ops[j]? = some oj → j ≠ i → listed.getD j true = false → (∀ e ∈ oj.after, Region.binds md e = true → e.on ≠ i) → oi.apart ops oj = true) →
      i ∈ Region.ready md ops listed → Yields P ops oi v a →
      wpM P md ops C Q T f (listed.setIfInBounds i true) (a.put oi.dst v) → wpM P md ops C Q T (f + 1) listed a := by
  intro f
  induction f with
  | zero =>
    intro listed a hfree hr hy H
    refine ⟨fun h => (by rw [h] at hr; cases hr), fun j hj => ?_⟩
    by_cases hji : j = i
    · subst hji; rw [if_neg hiT]; exact (yieldsIn_of_yields hy).qOp hi H
    · by_cases hex : ∃ w, C w
      · obtain ⟨w, hw⟩ := hex
        have := ready_mono hj hji
        rw [(H w hw).1] at this
        cases this
      · split
        · exact fun w hw => absurd ⟨w, hw⟩ hex
        · obtain ⟨hjun, oj, hoj, hall⟩ := mem_ready.1 hj
          unfold qOp
          simp only [hoj]
          split
          · exact ⟨undef, fun w hw => absurd ⟨w, hw⟩ hex, fun w hw => absurd ⟨w, hw⟩ hex⟩
          · exact fun w hw => absurd ⟨w, hw⟩ hex
  | succ f ih =>
    intro listed a hfree hr hy H
    refine ⟨fun h => (by rw [h] at hr; cases hr), fun j hj => ?_⟩
    by_cases hji : j = i
    · subst hji; rw [if_neg hiT]; exact (yieldsIn_of_yields hy).qOp hi H
    · have h1 := H.2 j (ready_mono hj hji)
      have hun := (mem_ready.1 hr).1
      obtain ⟨hjun, oj, hoj, hall⟩ := mem_ready.1 hj
      have hap := hfree j oj hoj hji hjun (not_on (md := md) hun hall)
      by_cases hT : j ∈ T
      · rw [if_pos hT] at h1 ⊢
        intro w hw
        have h2 := wpOp_put hoj hap (fun cs b => hsel i oi cs b hi) (fun cs b => hsel j oj cs b hoj) (fun c a w => hQ c a _ _ w) hy (h1 w hw)
        refine wpOp_mono (fun a' w' h3 => ?_) h2
        refine wpAny_first hi hsel (fun c a w => hQ c a _ _ w) f (listed.setIfInBounds j true) a' w' (free_next hfree hjun) (ready_mono hr (Ne.symm hji)) h3.1 ?_
        rw [Array.setIfInBounds_comm _ _ hji]
        exact h3.2
      · rw [if_neg hT] at h1 ⊢
        have h2 := qOp_put hoj hap (fun cs b => hsel i oi cs b hi) (fun cs b => hsel j oj cs b hoj) (yieldsIn_of_yields (C := C) hy) h1
        -- the value is the same in every world, whatever has come up
        have h3 : qOp P ops C j (fun a' => Yields P ops oi v a' ∧ wpM P md ops C Q T f ((listed.setIfInBounds i true).setIfInBounds j true) (a'.put oi.dst v)) a := by
          obtain ⟨q1, q2, q3⟩ := Oper.apart_spec hap
          obtain ⟨u, hu, hK⟩ := yieldsIn_of_qOp hoj h2
          exact hu.qOp hoj ⟨hy.of_same (execOp_put oi (fun cs b => hsel i oi cs b hi) a oj.dst u q3) (wanted_put oi a oj.dst u q3), hK.2⟩
        refine qOp_mono (fun a' h4 => ih (listed.setIfInBounds j true) a' (free_next hfree hjun) (ready_mono hr (Ne.symm hji)) h4.1 ?_) h3
        rw [Array.setIfInBounds_comm _ _ hji]
        exact h4.2

/-- One that reads may be taken first, where all of T wait for it. -/
theorem wpM_firstH {Q : Exit → Act → World → Prop} {T : List Nat} {i : Nat} {oi : Oper} {v : Value} (hi : ops[i]? = some oi) (hsel : ∀ (j : Nat) (o : Oper) cs b, ops[j]? = some o → o.op ≠ .select cs b)
    (hiT : i ∉ T) (hbe : ∀ j ∈ T, (behindOf md ops i ops.size).getD j false = true) :
    ∀ (f : Nat) (listed : Array Bool) (a : Act), Closed md ops listed →
      (∀ j oj, ops[j]? = some oj → j ≠ i → listed.getD j true = false → (∀ e ∈ oj.after, Region.binds md e = true → e.on ≠ i) → oi.apart ops oj = true) →
      i ∈ Region.ready md ops listed → YieldsIn P ops C oi v a →
      wpM P md ops C Q T f (listed.setIfInBounds i true) (a.put oi.dst v) → wpM P md ops C Q T (f + 1) listed a := by
  intro f
  induction f with
  | zero =>
    intro listed a hc hfree hr hy H
    refine ⟨fun h => (by rw [h] at hr; cases hr), fun j hj => ?_⟩
    have hjT : j ∉ T := fun hT => by
      have hji : j ≠ i := fun e => hiT (e ▸ hT)
      exact not_ready_of_behind hc (getD_ff (mem_ready.1 hr).1) hji (hbe j hT) hj
    rw [if_neg hjT]
    by_cases hji : j = i
    · subst hji; exact hy.qOp hi H
    · by_cases hex : ∃ w, C w
      · obtain ⟨w, hw⟩ := hex
        have := ready_mono hj hji
        rw [(H w hw).1] at this
        cases this
      · obtain ⟨hjun, oj, hoj, hall⟩ := mem_ready.1 hj
        unfold qOp
        simp only [hoj]
        split
        · exact ⟨undef, fun w hw => absurd ⟨w, hw⟩ hex, fun w hw => absurd ⟨w, hw⟩ hex⟩
        · exact fun w hw => absurd ⟨w, hw⟩ hex
  | succ f ih =>
    intro listed a hc hfree hr hy H
    refine ⟨fun h => (by rw [h] at hr; cases hr), fun j hj => ?_⟩
    have hjT : j ∉ T := fun hT => by
      have hji : j ≠ i := fun e => hiT (e ▸ hT)
      exact not_ready_of_behind hc (getD_ff (mem_ready.1 hr).1) hji (hbe j hT) hj
    rw [if_neg hjT]
    by_cases hji : j = i
    · subst hji; exact hy.qOp hi H
    · have h1 := H.2 j (ready_mono hj hji)
      rw [if_neg hjT] at h1
      have hun := (mem_ready.1 hr).1
      obtain ⟨hjun, oj, hoj, hall⟩ := mem_ready.1 hj
      have h2 := qOp_put hoj (hfree j oj hoj hji hjun (not_on (md := md) hun hall)) (fun cs b => hsel i oi cs b hi) (fun cs b => hsel j oj cs b hoj) hy h1
      refine qOp_mono (fun a' h3 => ih (listed.setIfInBounds j true) a' (hc.set hj) (free_next hfree hjun) (ready_mono hr (Ne.symm hji)) h3.1 ?_) h2
      rw [Array.setIfInBounds_comm _ _ hji]
      exact h3.2

/-- The tail: each operation is the only one that may come up. -/
def seqOn (md : Region.Mode) (ops : Array Oper) : List Nat → Array Bool → Bool
  | [], listed => (Region.ready md ops listed).isEmpty
  | i :: r, listed => decide (Region.ready md ops listed = [i]) && seqOn md ops r (listed.setIfInBounds i true)

theorem wpAny_of_seqOn {Q : Exit → Act → World → Prop} {l : List Oper} (hl : ops = l.toArray) : ∀ (T : List Nat) (listed : Array Bool) (a : Act) (w : World), seqOn md ops T listed = true →
    wpList P ops Q (sel l T) a w → wpAny P md ops Q T.length listed a w
  | [], _, _, _, hB, h => ⟨by simpa [seqOn] using hB, h⟩
  | i :: r, listed, a, w, hB, h => by
    simp only [seqOn, Bool.and_eq_true, decide_eq_true_eq] at hB
    have hmem : i ∈ Region.ready md ops listed := by rw [hB.1]; simp
    obtain ⟨_, o, ho, _⟩ := mem_ready.1 hmem
    have ho' : l[i]? = some o := by subst hl; simpa using ho
    refine ⟨fun h1 => (by rw [hB.1] at h1; cases h1), fun k hk => ?_⟩
    rw [hB.1] at hk
    have hki : k = i := by simpa using hk
    subst hki
    have h' : wpList P ops Q (o :: sel l r) a w := by simpa [sel, ho'] using h
    have hw : wpOp P ops Q k (wpList P ops Q (sel l r)) a w := by unfold wpOp; simp only [ho]; exact h'
    exact wpOp_mono (fun a' w' h'' => wpAny_of_seqOn hl r _ a' w' hB.2 h'') hw

def ordI (md : Region.Mode) (ops : Array Oper) (T : List Nat) : List Nat → Array Bool → Bool
  | [], listed => seqOn md ops T listed
  | i :: r, listed => !T.contains i && (Region.ready md ops listed).contains i && Region.free md ops listed i && ordI md ops T r (listed.setIfInBounds i true)

def ordH (md : Region.Mode) (ops : Array Oper) (I T : List Nat) : List Nat → Array Bool → Bool
  | [], listed => ordI md ops T I listed
  | i :: r, listed => !T.contains i && T.all (fun j => (behindOf md ops i ops.size).getD j false) && (Region.ready md ops listed).contains i && Region.free md ops listed i && ordH md ops I T r (listed.setIfInBounds i true)

theorem wpM_ordI {Q : Exit → Act → World → Prop} {l : List Oper} (hl : ops = l.toArray) (hQ : ∀ c (a : Act) d v w, Q (.panic c) (a.put d v) w → Q (.panic c) a w) (hsel : Region.noSelect ops = true) {T : List Nat} :
    ∀ (I : List Nat) (listed : Array Bool) (a : Act), ordI md ops T I listed = true → wpIdle P ops (fun a' => ∀ w, C w → wpList P ops Q (sel l T) a' w) (sel l I) a → wpM P md ops C Q T (I.length + T.length) listed a
  | [], listed, a, hB, h => by
    simp only [ordI] at hB
    have key : ∀ w, C w → wpAny P md ops Q T.length listed a w := fun w hw => wpAny_of_seqOn hl T listed a w hB (h w hw)
    simp only [List.length_nil, Nat.zero_add]
    cases T with
    | nil => exact key
    | cons i r =>
      simp only [seqOn, Bool.and_eq_true, decide_eq_true_eq] at hB
      refine ⟨fun h1 => (by rw [hB.1] at h1; cases h1), fun k hk => ?_⟩
      have hk' := hk
      rw [hB.1] at hk'
      have hki : k = i := by simpa using hk'
      subst hki
      rw [if_pos (by simp)]
      exact fun w hw => (key w hw).2 k hk
  | i :: r, listed, a, hB, h => by
    simp only [ordI, Bool.and_eq_true, Bool.not_eq_true'] at hB
    obtain ⟨⟨⟨hT, hr⟩, hf⟩, hB'⟩ := hB
    have hr' : i ∈ Region.ready md ops listed := by simpa using hr
    obtain ⟨_, o, ho, _⟩ := mem_ready.1 hr'
    have ho' : l[i]? = some o := by subst hl; simpa using ho
    have hst : iOp P ops i (wpIdle P ops (fun a' => ∀ w, C w → wpList P ops Q (sel l T) a' w) (sel l r)) a := by
      have h' : wpIdle P ops (fun a' => ∀ w, C w → wpList P ops Q (sel l T) a' w) (o :: sel l r) a := by simpa [sel, ho'] using h
      unfold iOp; simp only [ho]; exact h'
    obtain ⟨v, hy, hK⟩ := yields_of_iOp ho hst
    rw [show (i :: r).length + T.length = (r.length + T.length) + 1 by simp only [List.length_cons]; omega]
    exact wpM_firstI ho (Region.noSelect_spec hsel) hQ (by simpa using hT) _ listed a (Region.free_spec ho hf) hr' hy (wpM_ordI hl hQ hsel r _ _ hB' hK)

theorem wpM_ordH {Q : Exit → Act → World → Prop} {l : List Oper} (hl : ops = l.toArray) (hQ : ∀ c (a : Act) d v w, Q (.panic c) (a.put d v) w → Q (.panic c) a w) (hsel : Region.noSelect ops = true) {I T : List Nat} :
    ∀ (H : List Nat) (listed : Array Bool) (a : Act), Closed md ops listed → ordH md ops I T H listed = true → wpQuiet P ops C (fun a1 => wpIdle P ops (fun a' => ∀ w, C w → wpList P ops Q (sel l T) a' w) (sel l I) a1) (sel l H) a →
    wpM P md ops C Q T (H.length + (I.length + T.length)) listed a
  | [], listed, a, _, hB, h => by
    simp only [ordH] at hB
    simp only [List.length_nil, Nat.zero_add]
    exact wpM_ordI hl hQ hsel I listed a hB h
  | i :: r, listed, a, hc, hB, h => by
    simp only [ordH, Bool.and_eq_true, Bool.not_eq_true'] at hB
    obtain ⟨⟨⟨⟨hT, hbe⟩, hr⟩, hf⟩, hB'⟩ := hB
    have hr' : i ∈ Region.ready md ops listed := by simpa using hr
    obtain ⟨_, o, ho, _⟩ := mem_ready.1 hr'
    have ho' : l[i]? = some o := by subst hl; simpa using ho
    have hst : qOp P ops C i (wpQuiet P ops C (fun a1 => wpIdle P ops (fun a' => ∀ w, C w → wpList P ops Q (sel l T) a' w) (sel l I) a1) (sel l r)) a := by
      have h' : wpQuiet P ops C (fun a1 => wpIdle P ops (fun a' => ∀ w, C w → wpList P ops Q (sel l T) a' w) (sel l I) a1) (o :: sel l r) a := by simpa [sel, ho'] using h
      unfold qOp; simp only [ho]; exact h'
    obtain ⟨v, hy, hK⟩ := yieldsIn_of_qOp ho hst
    rw [show (i :: r).length + (I.length + T.length) = (r.length + (I.length + T.length)) + 1 by simp only [List.length_cons]; omega]
    exact wpM_firstH ho (Region.noSelect_spec hsel) (by simpa using hT) (fun j hj => List.all_eq_true.1 hbe j hj) _ listed a hc (Region.free_spec ho hf) hr' hy (wpM_ordH hl hQ hsel r _ _ (hc.set hr') hB' hK)

/-- The check of a whole region. -/
def ordB (ops : Array Oper) (H I T : List Nat) : Bool := Region.noSelect ops && decide (H.length + (I.length + T.length) = ops.size) && ordH .any ops I T H (Array.replicate ops.size false)

/-- One walk of the chosen order serves every order. -/
theorem wp_region_ord {id : Nat} {Q : Exit → Act → World → Prop} {a : Act} {w : World} {l : List Oper} (H I T : List Nat) (hm : P.follows .mixedOrders = true) (hB : ordB l.toArray H I T = true)
    (hQ : ∀ c (a : Act) d v w, Q (.panic c) (a.put d v) w → Q (.panic c) a w)
    (h : wpQuiet P l.toArray (fun w' => ∃ k, w' = w.drewN k) (fun a1 => wpIdle P l.toArray (fun a' => ∀ w', (∃ k, w' = w.drewN k) → wpList P l.toArray Q (sel l T) a' w') (sel l I) a1) (sel l H) a) : (Code.region id l.toArray true).wp P Q a w := by
  simp only [ordB, Bool.and_eq_true, decide_eq_true_eq] at hB
  obtain ⟨⟨hsel, hlen⟩, hmix⟩ := hB
  refine wp_region_any hm ?_
  have := wpAny_of_wpM _ _ _ (wpM_ordH (P := P) (C := fun w' => ∃ k, w' = w.drewN k) (md := .any) rfl hQ hsel H (Array.replicate l.toArray.size false) a (fun j oj _ hl => by rw [getD_replicate_false] at hl; cases hl) hmix h) { w with drawn := w.drawn + 1 } ⟨1, rfl⟩
  rwa [hlen] at this

end
end Go.Proofs.YtfchbkmegicfoaaGreat
