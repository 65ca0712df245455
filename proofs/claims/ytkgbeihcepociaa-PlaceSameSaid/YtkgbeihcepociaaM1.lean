/- Part 1 of the proof: Region, Lib, Ex. -/
import Derived.WalkKit
import Derived.Deep.QuietTactic
import Derived.BigQuiet
import Derived.StillTailTactics
import Derived.WalkSpells
import Derived.WalkLawsBesides
import Derived.Handy
import Derived.Deep.AppendSrc
import Derived.Lib.Hide
import Derived.Lib.MinMax
section
/- A region that draws its order: some moves, then operations that only read (and may draw), then a tail whose order is forced: one walk of the lexical order serves every order. -/
set_option linter.unusedSimpArgs false
namespace Go.Proofs.Ytkgbeihcepociaa
open Go.RowKit

section
variable {P : Program} {ops : Array Oper} {md : Region.Mode} {C : World → Prop}

/-- Which operations wait for operation k, by however many steps. -/
def behindOf (md : Region.Mode) (ops : Array Oper) (k : Nat) : Nat → List Bool
  | 0 => []
  | i + 1 =>
    let b := behindOf md ops k i
    b ++ [decide (i = k) || (match ops[i]? with | some o => o.after.any (fun e => Region.binds md e && decide (e.on < i) && b.getD e.on false) | none => false)]

theorem behindOf_length (md : Region.Mode) (ops : Array Oper) (k : Nat) : ∀ n, (behindOf md ops k n).length = n
  | 0 => rfl
  | n + 1 => by simp [behindOf, behindOf_length md ops k n]

theorem behindOf_spec (md : Region.Mode) (ops : Array Oper) (k : Nat) : ∀ (n i : Nat), (behindOf md ops k n).getD i false = true →
    i = k ∨ ∃ o, ops[i]? = some o ∧ ∃ e ∈ o.after, Region.binds md e = true ∧ e.on < i ∧ (behindOf md ops k i).getD e.on false = true
  | 0, i, h => by simp [behindOf] at h
  | n + 1, i, h => by
    rcases Nat.lt_trichotomy i n with hi | hi | hi
    · refine behindOf_spec md ops k n i ?_
      simp only [behindOf, List.getD_eq_getElem?_getD] at h
      rw [List.getElem?_append_left (by rw [behindOf_length]; exact hi)] at h
      simpa [List.getD_eq_getElem?_getD] using h
    · subst hi
      simp only [behindOf, List.getD_eq_getElem?_getD] at h
      rw [List.getElem?_append_right (by rw [behindOf_length]; exact Nat.le_refl _), behindOf_length, Nat.sub_self] at h
      simp only [List.getElem?_cons_zero, Option.getD_some, Bool.or_eq_true, decide_eq_true_eq] at h
      rcases h with h | h
      · exact .inl h
      · cases ho : ops[i]? with
        | none => rw [ho] at h; cases h
        | some o =>
          rw [ho] at h
          obtain ⟨e, he, hb⟩ := Array.any_eq_true'.1 h
          simp only [Bool.and_eq_true, decide_eq_true_eq] at hb
          exact .inr ⟨o, rfl, e, he, hb.1.1, hb.1.2, by simpa [List.getD_eq_getElem?_getD] using hb.2⟩
    · have : (behindOf md ops k (n + 1))[i]? = none := List.getElem?_eq_none (by rw [behindOf_length]; omega)
      rw [List.getD_eq_getElem?_getD, this] at h
      cases h

/-- What has come up is closed: all that it waits for has come up too. -/
def Closed (md : Region.Mode) (ops : Array Oper) (listed : Array Bool) : Prop :=
  ∀ j oj, ops[j]? = some oj → listed.getD j false = true → ∀ e ∈ oj.after, Region.binds md e = true → listed.getD e.on false = true

theorem Closed.set {listed : Array Bool} {i : Nat} (h : Closed md ops listed) (hi : i ∈ Region.ready md ops listed) : Closed md ops (listed.setIfInBounds i true) := by
  obtain ⟨_, oi, hoi, hall⟩ := mem_ready.1 hi
  intro j oj hj hl e he hb
  by_cases hij : i = j
  · subst hij
    have : oj = oi := Option.some.inj (hj.symm.trans hoi)
    subst this
    exact getD_set_true (hall e he hb)
  · rw [getD_set_ne false hij] at hl
    exact getD_set_true (h j oj hj hl e he hb)

theorem unlisted_of_behind {listed : Array Bool} {k : Nat} (hc : Closed md ops listed) (hk : listed.getD k false = false) : ∀ (i n : Nat), (behindOf md ops k n).getD i false = true → listed.getD i false = false := by
  intro i
  induction i using Nat.strongRecOn with
  | _ i ih =>
    intro n h
    rcases behindOf_spec md ops k n i h with rfl | ⟨o, ho, e, he, hb, hlt, hB⟩
    · exact hk
    · have h1 := ih e.on hlt i hB
      cases hl : listed.getD i false with
      | false => rfl
      | true =>
        have := hc i o ho hl e he hb
        rw [h1] at this
        cases this

theorem not_ready_of_behind {listed : Array Bool} {k : Nat} (hc : Closed md ops listed) (hk : listed.getD k false = false) {i n : Nat} (hne : i ≠ k) (h : (behindOf md ops k n).getD i false = true) : i ∉ Region.ready md ops listed := by
  intro hr
  rcases behindOf_spec md ops k n i h with rfl | ⟨o, ho, e, he, hb, hlt, hB⟩
  · exact hne rfl
  · obtain ⟨_, o', ho', hall⟩ := mem_ready.1 hr
    have : o' = o := Option.some.inj (ho'.symm.trans ho)
    subst this
    have h1 := unlisted_of_behind hc hk e.on i hB
    have h2 := hall e he hb
    rw [h1] at h2
    cases h2

/-- The head's phase, whatever order is picked. -/
def wpHead (P : Program) (md : Region.Mode) (ops : Array Oper) (C : World → Prop) (n : Nat) (L : Array Bool → Act → Prop) : Nat → Array Bool → Act → Prop
  | 0, listed, a => L listed a
  | f + 1, listed, a => Region.ready md ops listed ≠ [] ∧ ∀ i ∈ Region.ready md ops listed, i < n ∧ qOp P ops C i (wpHead P md ops C n L f (listed.setIfInBounds i true)) a

theorem wpAny_of_wpHead {n g : Nat} {L : Array Bool → Act → Prop} {Q : Exit → Act → World → Prop} (hL : ∀ listed a w, C w → L listed a → wpAny P md ops Q g listed a w) :
    ∀ (f : Nat) (listed : Array Bool) (a : Act) (w : World), C w → wpHead P md ops C n L f listed a → wpAny P md ops Q (f + g) listed a w
  | 0, listed, a, w, hw, h => by rw [Nat.zero_add]; exact hL _ _ _ hw h
  | f + 1, listed, a, w, hw, h => by
    rw [show f + 1 + g = (f + g) + 1 by omega]
    exact ⟨fun h0 => absurd h0 h.1, fun i hi => wpOp_of_qOp hw (fun a' w' hw' h' => wpAny_of_wpHead hL f _ a' w' hw' h') (h.2 i hi).2⟩

theorem getD_ff {listed : Array Bool} {i : Nat} (h : listed.getD i true = false) : listed.getD i false = false := by
  rcases Nat.lt_or_ge i listed.size with h' | h'
  · simp [h'] at h ⊢; exact h
  · simp [Array.getElem?_eq_none h'] at h

theorem wpHead_first {n i : Nat} {oi : Oper} {v : Value} {L : Array Bool → Act → Prop} (hi : ops[i]? = some oi) (hsel : ∀ (j : Nat) (o : Oper) cs b, ops[j]? = some o → o.op ≠ .select cs b)
    (hin : i < n) (hbe : ∀ j, n ≤ j → j < ops.size → (behindOf md ops i ops.size).getD j false = true)
    (hdone : ∀ listed a, L listed a → ∀ j ∈ Region.ready md ops listed, n ≤ j) :
    ∀ (f : Nat) (listed : Array Bool) (a : Act), Closed md ops listed →
      (∀ j oj, ops[j]? = some oj → j ≠ i → listed.getD j true = false → (∀ e ∈ oj.after, Region.binds md e = true → e.on ≠ i) → oi.apart ops oj = true) →
      i ∈ Region.ready md ops listed → YieldsIn P ops C oi v a →
      wpHead P md ops C n L f (listed.setIfInBounds i true) (a.put oi.dst v) → wpHead P md ops C n L (f + 1) listed a := by
  have small : ∀ (listed : Array Bool), Closed md ops listed → i ∈ Region.ready md ops listed → ∀ j ∈ Region.ready md ops listed, j < n := by
    intro listed hc hr j hj
    rcases Nat.lt_or_ge j n with h | h
    · exact h
    · obtain ⟨_, oj, hoj, _⟩ := mem_ready.1 hj
      have hlt : j < ops.size := (Array.getElem?_eq_some_iff.1 hoj).1
      exact absurd hj (not_ready_of_behind hc (getD_ff (mem_ready.1 hr).1) (by omega) (hbe j h hlt))
  intro f
  induction f with
  | zero =>
    intro listed a hc _ hr hy H
    refine ⟨fun h => (by rw [h] at hr; cases hr), fun j hj => ⟨small listed hc hr j hj, ?_⟩⟩
    by_cases hji : j = i
    · subst hji; exact hy.qOp hi H
    · have h1 := hdone _ _ H j (ready_mono hj hji)
      have h2 := small listed hc hr j hj
      omega
  | succ f ih =>
    intro listed a hc hfree hr hy H
    refine ⟨fun h => (by rw [h] at hr; cases hr), fun j hj => ⟨small listed hc hr j hj, ?_⟩⟩
    by_cases hji : j = i
    · subst hji; exact hy.qOp hi H
    · have h1 := (H.2 j (ready_mono hj hji)).2
      obtain ⟨hjun, oj, hoj, hall⟩ := mem_ready.1 hj
      have hnot : ∀ e ∈ oj.after, Region.binds md e = true → e.on ≠ i := fun e he hb heq => by
        have h1 := hall e he hb
        rw [heq, getD_ff (mem_ready.1 hr).1] at h1
        cases h1
      have h2 := qOp_put hoj (hfree j oj hoj hji hjun hnot) (fun cs b => hsel i oi cs b hi) (fun cs b => hsel j oj cs b hoj) hy h1
      have hfree' : ∀ k ok, ops[k]? = some ok → k ≠ i → (listed.setIfInBounds j true).getD k true = false →
          (∀ e ∈ ok.after, Region.binds md e = true → e.on ≠ i) → oi.apart ops ok = true := fun k ok hk hki hun hno => by
        refine hfree k ok hk hki ?_ hno
        by_cases hjk : j = k
        · subst hjk; exact hjun
        · rw [getD_set_ne true hjk] at hun; exact hun
      refine qOp_mono (fun a' h3 => ih (listed.setIfInBounds j true) a' (hc.set hj) hfree' (ready_mono hr (Ne.symm hji)) h3.1 ?_) h2
      rw [Array.setIfInBounds_comm _ _ hji]
      exact h3.2

/-- The head, in the lexical order. -/
def headB (md : Region.Mode) (ops : Array Oper) (n : Nat) : Nat → Nat → Array Bool → Bool
  | 0, k, listed => Region.seqB md ops (ops.size - n) k listed
  | f + 1, k, listed => (Region.ready md ops listed).contains k && Region.free md ops listed k && ((behindOf md ops k ops.size).drop n).all id && headB md ops n f (k + 1) (listed.setIfInBounds k true)

theorem wpHead_lex {n : Nat} {Lq : Act → Prop} (hsel : Region.noSelect ops = true) (hn : n ≤ ops.size) :
    ∀ (l : List Oper) (k : Nat) (listed : Array Bool) (a : Act), (∀ j, j < l.length → l[j]? = ops[k + j]?) → k + l.length = n → Closed md ops listed →
    headB md ops n l.length k listed = true → wpQuiet P ops C Lq l a →
    wpHead P md ops C n (fun listed' a' => Region.seqB md ops (ops.size - n) n listed' = true ∧ Lq a') l.length listed a
  | [], k, listed, a, _, hk, _, hB, h => by
    have : k = n := by simpa using hk
    subst this
    exact ⟨by simpa [headB] using hB, h⟩
  | o :: l, k, listed, a, hl, hk, hc, hB, h => by
    have h0 : ops[k]? = some o := by simpa using (hl 0 (by simp)).symm
    simp only [List.length_cons, headB, Bool.and_eq_true] at hB
    obtain ⟨⟨⟨hr, hf⟩, hbe⟩, hB'⟩ := hB
    have hkn : k < n := by simp only [List.length_cons] at hk; omega
    have hr' : k ∈ Region.ready md ops listed := by simpa using hr
    have hst : qOp P ops C k (wpQuiet P ops C Lq l) a := by unfold qOp; simp only [h0]; exact h
    obtain ⟨v, hy, hK⟩ := yieldsIn_of_qOp h0 hst
    have hbe' : ∀ j, n ≤ j → j < ops.size → (behindOf md ops k ops.size).getD j false = true := fun j h1 h2 => by
      have hlen := behindOf_length md ops k ops.size
      have h3 : j - n < ((behindOf md ops k ops.size).drop n).length := by rw [List.length_drop, hlen]; omega
      have := List.all_eq_true.1 hbe _ (List.getElem_mem h3)
      rw [List.getElem_drop] at this
      rw [List.getD_eq_getElem?_getD, List.getElem?_eq_getElem (by omega)]
      simpa [show n + (j - n) = j by omega] using this
    exact wpHead_first h0 (Region.noSelect_spec hsel) hkn hbe' (fun listed' a' hL => seqB_ready hL.1) l.length listed a hc (Region.free_spec h0 hf) hr' hy
      (wpHead_lex hsel hn l (k + 1) _ _ (fun j hj => by have := hl (j + 1) (by simp; omega); simpa [Nat.add_assoc, Nat.add_comm 1 j] using this) (by simp only [List.length_cons] at hk; omega) (hc.set hr') hB' hK)

/-- Is it a move without a guard? -/
def isMove (o : Oper) : Bool := match o.op, o.guard with | .move _, none => true | _, _ => false

theorem isMove_yields {o : Oper} (h : isMove o = true) (a : Act) : ∃ v, Yields P ops o v a ∧ ∀ (C : World → Prop) (K : Act → Prop) (w : World), C w → (if Region.wanted o (yielded ops a.tmps) then o.quiet P a C K else K (a.put o.dst undef)) → K (a.put o.dst v) := by
  obtain ⟨dst, op, ty, pos, after, guard⟩ := o
  simp only [isMove] at h
  split at h
  · rename_i x
    refine ⟨a.eval x, .inl ⟨by simp [Region.wanted], fun w => by simp [execOp, Sem.run_pure]⟩, ?_⟩
    intro C K w hw hh
    simp only [Region.wanted, if_true] at hh
    obtain ⟨v, hv, hK⟩ := hh
    have := hv w hw
    simp only [Oper.quietAt, execOp, Oper.quietUpon, Sem.run_pure, Sem.run_bind, Result.andThen_ok] at this
    obtain ⟨-, rfl⟩ := this
    exact hK
  · cases h

/-- The moves ahead, then the head. -/
def mixB (md : Region.Mode) (ops : Array Oper) (n : Nat) : Nat → Nat → Nat → Array Bool → Bool
  | 0, f, k, listed => headB md ops n f k listed
  | m + 1, f, k, listed => (match ops[k]? with | some o => isMove o | none => false) && (Region.ready md ops listed).contains k && Region.free md ops listed k && mixB md ops n m f (k + 1) (listed.setIfInBounds k true)

theorem wpAny_mix {Q : Exit → Act → World → Prop} (hQ : ∀ c (a : Act) d v w, Q (.panic c) (a.put d v) w → Q (.panic c) a w) {n : Nat} (hsel : Region.noSelect ops = true) (hn : n ≤ ops.size) (tl : List Oper)
    (htl : ∀ j, tl[j]? = ops[n + j]?) (htn : tl.length = ops.size - n) :
    ∀ (m : Nat) (l : List Oper) (k : Nat) (listed : Array Bool) (a : Act) (w : World), C w → (∀ j, j < l.length → l[j]? = ops[k + j]?) → k + l.length = n → Closed md ops listed → m ≤ l.length →
    mixB md ops n m (l.length - m) k listed = true → wpQuiet P ops C (fun a' => ∀ w', C w' → wpList P ops Q tl a' w') l a →
    wpAny P md ops Q (l.length + (ops.size - n)) listed a w
  | 0, l, k, listed, a, w, hw, hl, hk, hc, _, hB, h => by
    simp only [mixB, Nat.sub_zero] at hB
    refine wpAny_of_wpHead (C := C) (n := n) (L := fun listed' a' => Region.seqB md ops (ops.size - n) n listed' = true ∧ ∀ w', C w' → wpList P ops Q tl a' w') ?_ _ _ _ _ hw (wpHead_lex hsel hn l k listed a hl hk hc hB h)
    intro listed' a' w' hw' hL
    have := wpAny_of_seq (md := md) (Q' := Q) tl n listed' a' w' htl (by rw [htn]; exact hL.1) (hL.2 w' hw')
    rwa [htn] at this
  | m + 1, [], k, listed, a, w, _, _, _, _, hm, _, _ => by simp at hm
  | m + 1, o :: l, k, listed, a, w, hw, hl, hk, hc, hm, hB, h => by
    have h0 : ops[k]? = some o := by simpa using (hl 0 (by simp)).symm
    simp only [List.length_cons, mixB, h0, Bool.and_eq_true] at hB
    obtain ⟨⟨⟨hmv, hr⟩, hf⟩, hB'⟩ := hB
    rw [show l.length + 1 - (m + 1) = l.length - m by omega] at hB'
    have hr' : k ∈ Region.ready md ops listed := by simpa using hr
    obtain ⟨v, hy, hput⟩ := isMove_yields (P := P) (ops := ops) hmv a
    rw [show (o :: l).length + (ops.size - n) = (l.length + (ops.size - n)) + 1 by simp only [List.length_cons]; omega]
    refine wpAny_take h0 hsel hf hr (fun c a w => hQ c a _ _ w) hy ?_
    refine wpAny_mix hQ hsel hn tl htl htn m l (k + 1) _ _ w hw (fun j hj => by have := hl (j + 1) (by simp; omega); simpa [Nat.add_assoc, Nat.add_comm 1 j] using this) (by simp only [List.length_cons] at hk; omega) (hc.set hr') (by simp only [List.length_cons] at hm; omega) hB' ?_
    exact hput C _ w hw h

/-- The check of a whole region: m moves, a head up to n, a tail. -/
def regionB (ops : Array Oper) (m n : Nat) : Bool := Region.noSelect ops && decide (m ≤ n) && decide (n ≤ ops.size) && mixB .any ops n m (n - m) 0 (Array.replicate ops.size false)

/-- One walk of the lexical order serves every order. -/
theorem wp_region_mix {id : Nat} {Q : Exit → Act → World → Prop} {a : Act} {w : World} {l : List Oper} (m n : Nat) (hm : P.follows .mixedOrders = true) (hB : regionB l.toArray m n = true)
    (hQ : ∀ c (a : Act) d v w, Q (.panic c) (a.put d v) w → Q (.panic c) a w)
    (h : wpQuiet P l.toArray (fun w' => ∃ k, w' = w.drewN k) (fun a' => ∀ w', (∃ k, w' = w.drewN k) → wpList P l.toArray Q (l.drop n) a' w') (l.take n) a) : (Code.region id l.toArray true).wp P Q a w := by
  simp only [regionB, Bool.and_eq_true, decide_eq_true_eq] at hB
  obtain ⟨⟨⟨hsel, hmn⟩, hn⟩, hmix⟩ := hB
  refine wp_region_any hm ?_
  have hn' : n ≤ l.length := by simpa using hn
  have htl : (l.take n).length = n := by simp; omega
  have := wpAny_mix (P := P) (C := fun w' => ∃ k, w' = w.drewN k) (md := .any) hQ hsel hn (l.drop n) (fun j => by simp [List.getElem?_drop]) (by simp) m (l.take n) 0 (Array.replicate l.toArray.size false) a { w with drawn := w.drawn + 1 } ⟨1, rfl⟩
    (fun j hj => by
      have hj' : j < n := by rw [htl] at hj; exact hj
      simp [hj']) (by rw [htl]; omega) (fun j oj _ hl => by rw [getD_replicate_false] at hl; cases hl) (by rw [htl]; exact hmn) (by rw [htl]; exact hmix) h
  rw [htl, show n + (l.toArray.size - n) = l.toArray.size by omega] at this
  exact this

/-! ### The same with the order chosen: H reads, I hangs on no world, T is forced. -/

/-- The operations of these numbers. -/
def sel (l : List Oper) (is : List Nat) : List Oper := is.filterMap fun i => l[i]?

/-- Operation i, which hangs on no world. -/
def iOp (P : Program) (ops : Array Oper) (i : Nat) (K : Act → Prop) (a : Act) : Prop :=
  match ops[i]? with
  | none => K a
  | some o => if Region.wanted o (yielded ops a.tmps) then ∃ v, (∀ w, (execOp a.eval o).run P w = .ok (.value v) w) ∧ K (a.put o.dst v) else K (a.put o.dst undef)

/-- The walk over operations that hang on no world. -/
def wpIdle (P : Program) (ops : Array Oper) (Q : Act → Prop) : List Oper → Act → Prop
  | [], a => Q a
  | o :: rest, a => if Region.wanted o (yielded ops a.tmps) then ∃ v, (∀ w, (execOp a.eval o).run P w = .ok (.value v) w) ∧ wpIdle P ops Q rest (a.put o.dst v) else wpIdle P ops Q rest (a.put o.dst undef)

theorem wpIdle_nil {Q : Act → Prop} {a : Act} (h : Q a) : wpIdle P ops Q [] a := h
theorem wpIdle_step {Q : Act → Prop} {a : Act} {o : Oper} {rest : List Oper}
    (h : ∀ K : Act → Prop, (∀ a, wpIdle P ops Q rest a → K a) → if Region.wanted o (yielded ops a.tmps) then ∃ v, (∀ w, (execOp a.eval o).run P w = .ok (.value v) w) ∧ K (a.put o.dst v) else K (a.put o.dst undef)) : wpIdle P ops Q (o :: rest) a :=
  h _ (fun _ h => h)

theorem yields_of_iOp {i : Nat} {o : Oper} {a : Act} {K : Act → Prop} (hi : ops[i]? = some o) (h : iOp P ops i K a) : ∃ v, Yields P ops o v a ∧ K (a.put o.dst v) := by
  unfold iOp at h
  simp only [hi] at h
  by_cases hw : Region.wanted o (yielded ops a.tmps) = true
  · simp only [hw, if_true] at h
    obtain ⟨v, h1, h2⟩ := h
    exact ⟨v, .inl ⟨hw, h1⟩, h2⟩
  · simp only [hw] at h
    exact ⟨undef, .inr ⟨by simpa using hw, rfl⟩, h⟩

theorem yieldsIn_of_yields {o : Oper} {v : Value} {a : Act} (h : Yields P ops o v a) : YieldsIn P ops C o v a :=
  h.imp (fun ⟨hw, hv⟩ => ⟨hw, fun w _ => by unfold Oper.quietAt; rw [hv w]; exact ⟨rfl, rfl⟩⟩) id

/-- Whatever order is picked: the operations of T go by 'wpAny'. -/
def wpM (P : Program) (md : Region.Mode) (ops : Array Oper) (C : World → Prop) (Q : Exit → Act → World → Prop) (T : List Nat) : Nat → Array Bool → Act → Prop
  | 0, listed, a => ∀ w, C w → wpAny P md ops Q 0 listed a w
  | f + 1, listed, a => (Region.ready md ops listed = [] → ∀ w, C w → Q .normal a w) ∧ ∀ i ∈ Region.ready md ops listed,
      if i ∈ T then ∀ w, C w → wpOp P ops Q i (fun a' w' => wpAny P md ops Q f (listed.setIfInBounds i true) a' w') a w
      else qOp P ops C i (wpM P md ops C Q T f (listed.setIfInBounds i true)) a

theorem wpAny_of_wpM {Q : Exit → Act → World → Prop} {T : List Nat} : ∀ (f : Nat) (listed : Array Bool) (a : Act), wpM P md ops C Q T f listed a → ∀ w, C w → wpAny P md ops Q f listed a w
  | 0, _, _, h, w, hw => h w hw
  | f + 1, listed, a, h, w, hw => by
    refine ⟨fun h0 => h.1 h0 w hw, fun i hi => ?_⟩
    have h1 := h.2 i hi
    by_cases hT : i ∈ T
    · rw [if_pos hT] at h1
      exact h1 w hw
    · rw [if_neg hT] at h1
      exact wpOp_of_qOp hw (fun a' w' hw' h' => wpAny_of_wpM f _ a' h' w' hw') h1

theorem free_next {md : Region.Mode} {i : Nat} {oi : Oper} {listed : Array Bool} (hfree : ∀ j oj, ops[j]? = some oj → j ≠ i → listed.getD j true = false → (∀ e ∈ oj.after, Region.binds md e = true → e.on ≠ i) → oi.apart ops oj = true) {j : Nat} (hjun : listed.getD j true = false) :
    ∀ k ok, ops[k]? = some ok → k ≠ i → (listed.setIfInBounds j true).getD k true = false → (∀ e ∈ ok.after, Region.binds md e = true → e.on ≠ i) → oi.apart ops ok = true := fun k ok hk hki hun hno => by
  refine hfree k ok hk hki ?_ hno
  by_cases hjk : j = k
  · subst hjk; exact hjun
  · rw [getD_set_ne true hjk] at hun; exact hun

theorem not_on {md : Region.Mode} {i : Nat} {oj : Oper} {listed : Array Bool} (hun : listed.getD i true = false) (hall : ∀ e ∈ oj.after, Region.binds md e = true → listed.getD e.on false = true) :
    ∀ e ∈ oj.after, Region.binds md e = true → e.on ≠ i := fun e he hb heq => by
  have h1 := hall e he hb
  rw [heq, getD_ff hun] at h1
  cases h1

/-- One that hangs on no world may be taken first. -/
theorem wpM_firstI {Q : Exit → Act → World → Prop} {T : List Nat} {i : Nat} {oi : Oper} {v : Value} (hi : ops[i]? = some oi) (hsel : ∀ (j : Nat) (o : Oper) cs b, ops[j]? = some o → o.op ≠ .select cs b)
    (hQ : ∀ c (a : Act) d v w, Q (.panic c) (a.put d v) w → Q (.panic c) a w) (hiT : i ∉ T) :
    ∀ (f : Nat) (listed : Array Bool) (a : Act),
      (∀ j oj, ops[j]? = some oj → j ≠ i → listed.getD j true = false → (∀ e ∈ oj.after, Region.binds md e = true → e.on ≠ i) → oi.apart ops oj = true) →
      i ∈ Region.ready md ops listed → Yields P ops oi v a →
      wpM P md ops C Q T f (listed.setIfInBounds i true) (a.put oi.dst v) → wpM P md ops C Q T (f + 1) listed a := by
  intro f
  induction f with
  | zero =>
    intro listed a hfree hr hy H
    refine ⟨fun h => (by rw [h] at hr; cases hr), fun j hj => ?_⟩
    by_cases hji : j = i
    · subst hji; rw [if_neg hiT]; exact (yieldsIn_of_yields hy).qOp hi H
    · by_cases hex : ∃ w, C w
      · obtain ⟨w, hw⟩ := hex
        have := ready_mono hj hji
        rw [(H w hw).1] at this
        cases this
      · split
        · exact fun w hw => absurd ⟨w, hw⟩ hex
        · obtain ⟨hjun, oj, hoj, hall⟩ := mem_ready.1 hj
          unfold qOp
          simp only [hoj]
          split
          · exact ⟨undef, fun w hw => absurd ⟨w, hw⟩ hex, fun w hw => absurd ⟨w, hw⟩ hex⟩
          · exact fun w hw => absurd ⟨w, hw⟩ hex
  | succ f ih =>
    intro listed a hfree hr hy H
    refine ⟨fun h => (by rw [h] at hr; cases hr), fun j hj => ?_⟩
    by_cases hji : j = i
    · subst hji; rw [if_neg hiT]; exact (yieldsIn_of_yields hy).qOp hi H
    · have h1 := H.2 j (ready_mono hj hji)
      have hun := (mem_ready.1 hr).1
      obtain ⟨hjun, oj, hoj, hall⟩ := mem_ready.1 hj
      have hap := hfree j oj hoj hji hjun (not_on (md := md) hun hall)
      by_cases hT : j ∈ T
      · rw [if_pos hT] at h1 ⊢
        intro w hw
        have h2 := wpOp_put hoj hap (fun cs b => hsel i oi cs b hi) (fun cs b => hsel j oj cs b hoj) (fun c a w => hQ c a _ _ w) hy (h1 w hw)
        refine wpOp_mono (fun a' w' h3 => ?_) h2
        refine wpAny_first hi hsel (fun c a w => hQ c a _ _ w) f (listed.setIfInBounds j true) a' w' (free_next hfree hjun) (ready_mono hr (Ne.symm hji)) h3.1 ?_
        rw [Array.setIfInBounds_comm _ _ hji]
        exact h3.2
      · rw [if_neg hT] at h1 ⊢
        have h2 := qOp_put hoj hap (fun cs b => hsel i oi cs b hi) (fun cs b => hsel j oj cs b hoj) (yieldsIn_of_yields (C := C) hy) h1
        -- the value is the same in every world, whatever has come up
        have h3 : qOp P ops C j (fun a' => Yields P ops oi v a' ∧ wpM P md ops C Q T f ((listed.setIfInBounds i true).setIfInBounds j true) (a'.put oi.dst v)) a := by
          obtain ⟨q1, q2, q3⟩ := Oper.apart_spec hap
          obtain ⟨u, hu, hK⟩ := yieldsIn_of_qOp hoj h2
          exact hu.qOp hoj ⟨hy.of_same (execOp_put oi (fun cs b => hsel i oi cs b hi) a oj.dst u q3) (wanted_put oi a oj.dst u q3), hK.2⟩
        refine qOp_mono (fun a' h4 => ih (listed.setIfInBounds j true) a' (free_next hfree hjun) (ready_mono hr (Ne.symm hji)) h4.1 ?_) h3
        rw [Array.setIfInBounds_comm _ _ hji]
        exact h4.2

/-- One that reads may be taken first, where all of T wait for it. -/
theorem wpM_firstH {Q : Exit → Act → World → Prop} {T : List Nat} {i : Nat} {oi : Oper} {v : Value} (hi : ops[i]? = some oi) (hsel : ∀ (j : Nat) (o : Oper) cs b, ops[j]? = some o → o.op ≠ .select cs b)
    (hiT : i ∉ T) (hbe : ∀ j ∈ T, (behindOf md ops i ops.size).getD j false = true) :
    ∀ (f : Nat) (listed : Array Bool) (a : Act), Closed md ops listed →
      (∀ j oj, ops[j]? = some oj → j ≠ i → listed.getD j true = false → (∀ e ∈ oj.after, Region.binds md e = true → e.on ≠ i) → oi.apart ops oj = true) →
      i ∈ Region.ready md ops listed → YieldsIn P ops C oi v a →
      wpM P md ops C Q T f (listed.setIfInBounds i true) (a.put oi.dst v) → wpM P md ops C Q T (f + 1) listed a := by
  intro f
  induction f with
  | zero =>
    intro listed a hc hfree hr hy H
    refine ⟨fun h => (by rw [h] at hr; cases hr), fun j hj => ?_⟩
    have hjT : j ∉ T := fun hT => by
      have hji : j ≠ i := fun e => hiT (e ▸ hT)
      exact not_ready_of_behind hc (getD_ff (mem_ready.1 hr).1) hji (hbe j hT) hj
    rw [if_neg hjT]
    by_cases hji : j = i
    · subst hji; exact hy.qOp hi H
    · by_cases hex : ∃ w, C w
      · obtain ⟨w, hw⟩ := hex
        have := ready_mono hj hji
        rw [(H w hw).1] at this
        cases this
      · obtain ⟨hjun, oj, hoj, hall⟩ := mem_ready.1 hj
        unfold qOp
        simp only [hoj]
        split
        · exact ⟨undef, fun w hw => absurd ⟨w, hw⟩ hex, fun w hw => absurd ⟨w, hw⟩ hex⟩
        · exact fun w hw => absurd ⟨w, hw⟩ hex
  | succ f ih =>
    intro listed a hc hfree hr hy H
    refine ⟨fun h => (by rw [h] at hr; cases hr), fun j hj => ?_⟩
    have hjT : j ∉ T := fun hT => by
      have hji : j ≠ i := fun e => hiT (e ▸ hT)
      exact not_ready_of_behind hc (getD_ff (mem_ready.1 hr).1) hji (hbe j hT) hj
    rw [if_neg hjT]
    by_cases hji : j = i
    · subst hji; exact hy.qOp hi H
    · have h1 := H.2 j (ready_mono hj hji)
      rw [if_neg hjT] at h1
      have hun := (mem_ready.1 hr).1
      obtain ⟨hjun, oj, hoj, hall⟩ := mem_ready.1 hj
      have h2 := qOp_put hoj (hfree j oj hoj hji hjun (not_on (md := md) hun hall)) (fun cs b => hsel i oi cs b hi) (fun cs b => hsel j oj cs b hoj) hy h1
      refine qOp_mono (fun a' h3 => ih (listed.setIfInBounds j true) a' (hc.set hj) (free_next hfree hjun) (ready_mono hr (Ne.symm hji)) h3.1 ?_) h2
      rw [Array.setIfInBounds_comm _ _ hji]
      exact h3.2

/-- The tail: each operation is the only one that may come up. -/
def seqOn (md : Region.Mode) (ops : Array Oper) : List Nat → Array Bool → Bool
  | [], listed => (Region.ready md ops listed).isEmpty
  | i :: r, listed => decide (Region.ready md ops listed = [i]) && seqOn md ops r (listed.setIfInBounds i true)

theorem wpAny_of_seqOn {Q : Exit → Act → World → Prop} {l : List Oper} (hl : ops = l.toArray) : ∀ (T : List Nat) (listed : Array Bool) (a : Act) (w : World), seqOn md ops T listed = true →
    wpList P ops Q (sel l T) a w → wpAny P md ops Q T.length listed a w
  | [], _, _, _, hB, h => ⟨by simpa [seqOn] using hB, h⟩
  | i :: r, listed, a, w, hB, h => by
    simp only [seqOn, Bool.and_eq_true, decide_eq_true_eq] at hB
    have hmem : i ∈ Region.ready md ops listed := by rw [hB.1]; simp
    obtain ⟨_, o, ho, _⟩ := mem_ready.1 hmem
    have ho' : l[i]? = some o := by subst hl; simpa using ho
    refine ⟨fun h1 => (by rw [hB.1] at h1; cases h1), fun k hk => ?_⟩
    rw [hB.1] at hk
    have hki : k = i := by simpa using hk
    subst hki
    have h' : wpList P ops Q (o :: sel l r) a w := by simpa [sel, ho'] using h
    have hw : wpOp P ops Q k (wpList P ops Q (sel l r)) a w := by unfold wpOp; simp only [ho]; exact h'
    exact wpOp_mono (fun a' w' h'' => wpAny_of_seqOn hl r _ a' w' hB.2 h'') hw

def ordI (md : Region.Mode) (ops : Array Oper) (T : List Nat) : List Nat → Array Bool → Bool
  | [], listed => seqOn md ops T listed
  | i :: r, listed => !T.contains i && (Region.ready md ops listed).contains i && Region.free md ops listed i && ordI md ops T r (listed.setIfInBounds i true)

def ordH (md : Region.Mode) (ops : Array Oper) (I T : List Nat) : List Nat → Array Bool → Bool
  | [], listed => ordI md ops T I listed
  | i :: r, listed => !T.contains i && T.all (fun j => (behindOf md ops i ops.size).getD j false) && (Region.ready md ops listed).contains i && Region.free md ops listed i && ordH md ops I T r (listed.setIfInBounds i true)

theorem wpM_ordI {Q : Exit → Act → World → Prop} {l : List Oper} (hl : ops = l.toArray) (hQ : ∀ c (a : Act) d v w, Q (.panic c) (a.put d v) w → Q (.panic c) a w) (hsel : Region.noSelect ops = true) {T : List Nat} :
    ∀ (I : List Nat) (listed : Array Bool) (a : Act), ordI md ops T I listed = true → wpIdle P ops (fun a' => ∀ w, C w → wpList P ops Q (sel l T) a' w) (sel l I) a → wpM P md ops C Q T (I.length + T.length) listed a
  | [], listed, a, hB, h => by
    simp only [ordI] at hB
    have key : ∀ w, C w → wpAny P md ops Q T.length listed a w := fun w hw => wpAny_of_seqOn hl T listed a w hB (h w hw)
    simp only [List.length_nil, Nat.zero_add]
    cases T with
    | nil => exact key
    | cons i r =>
      simp only [seqOn, Bool.and_eq_true, decide_eq_true_eq] at hB
      refine ⟨fun h1 => (by rw [hB.1] at h1; cases h1), fun k hk => ?_⟩
      have hk' := hk
      rw [hB.1] at hk'
      have hki : k = i := by simpa using hk'
      subst hki
      rw [if_pos (by simp)]
      exact fun w hw => (key w hw).2 k hk
  | i :: r, listed, a, hB, h => by
    simp only [ordI, Bool.and_eq_true, Bool.not_eq_true'] at hB
    obtain ⟨⟨⟨hT, hr⟩, hf⟩, hB'⟩ := hB
    have hr' : i ∈ Region.ready md ops listed := by simpa using hr
    obtain ⟨_, o, ho, _⟩ := mem_ready.1 hr'
    have ho' : l[i]? = some o := by subst hl; simpa using ho
    have hst : iOp P ops i (wpIdle P ops (fun a' => ∀ w, C w → wpList P ops Q (sel l T) a' w) (sel l r)) a := by
      have h' : wpIdle P ops (fun a' => ∀ w, C w → wpList P ops Q (sel l T) a' w) (o :: sel l r) a := by simpa [sel, ho'] using h
      unfold iOp; simp only [ho]; exact h'
    obtain ⟨v, hy, hK⟩ := yields_of_iOp ho hst
    rw [show (i :: r).length + T.length = (r.length + T.length) + 1 by simp only [List.length_cons]; omega]
    exact wpM_firstI ho (Region.noSelect_spec hsel) hQ (by simpa using hT) _ listed a (Region.free_spec ho hf) hr' hy (wpM_ordI hl hQ hsel r _ _ hB' hK)

theorem wpM_ordH {Q : Exit → Act → World → Prop} {l : List Oper} (hl : ops = l.toArray) (hQ : ∀ c (a : Act) d v w, Q (.panic c) (a.put d v) w → Q (.panic c) a w) (hsel : Region.noSelect ops = true) {I T : List Nat} :
    ∀ (H : List Nat) (listed : Array Bool) (a : Act), Closed md ops listed → ordH md ops I T H listed = true → wpQuiet P ops C (fun a1 => wpIdle P ops (fun a' => ∀ w, C w → wpList P ops Q (sel l T) a' w) (sel l I) a1) (sel l H) a →
    wpM P md ops C Q T (H.length + (I.length + T.length)) listed a
  | [], listed, a, _, hB, h => by
    simp only [ordH] at hB
    simp only [List.length_nil, Nat.zero_add]
    exact wpM_ordI hl hQ hsel I listed a hB h
  | i :: r, listed, a, hc, hB, h => by
    simp only [ordH, Bool.and_eq_true, Bool.not_eq_true'] at hB
    obtain ⟨⟨⟨⟨hT, hbe⟩, hr⟩, hf⟩, hB'⟩ := hB
    have hr' : i ∈ Region.ready md ops listed := by simpa using hr
    obtain ⟨_, o, ho, _⟩ := mem_ready.1 hr'
    have ho' : l[i]? = some o := by subst hl; simpa using ho
    have hst : qOp P ops C i (wpQuiet P ops C (fun a1 => wpIdle P ops (fun a' => ∀ w, C w → wpList P ops Q (sel l T) a' w) (sel l I) a1) (sel l r)) a := by
      have h' : wpQuiet P ops C (fun a1 => wpIdle P ops (fun a' => ∀ w, C w → wpList P ops Q (sel l T) a' w) (sel l I) a1) (o :: sel l r) a := by simpa [sel, ho'] using h
      unfold qOp; simp only [ho]; exact h'
    obtain ⟨v, hy, hK⟩ := yieldsIn_of_qOp ho hst
    rw [show (i :: r).length + (I.length + T.length) = (r.length + (I.length + T.length)) + 1 by simp only [List.length_cons]; omega]
    exact wpM_firstH ho (Region.noSelect_spec hsel) (by simpa using hT) (fun j hj => List.all_eq_true.1 hbe j hj) _ listed a hc (Region.free_spec ho hf) hr' hy (wpM_ordH hl hQ hsel r _ _ (hc.set hr') hB' hK)

/-- The check of a whole region. -/
def ordB (ops : Array Oper) (H I T : List Nat) : Bool := Region.noSelect ops && decide (H.length + (I.length + T.length) = ops.size) && ordH .any ops I T H (Array.replicate ops.size false)

/-- One walk of the chosen order serves every order. -/
theorem wp_region_ord {id : Nat} {Q : Exit → Act → World → Prop} {a : Act} {w : World} {l : List Oper} (H I T : List Nat) (hm : P.follows .mixedOrders = true) (hB : ordB l.toArray H I T = true)
    (hQ : ∀ c (a : Act) d v w, Q (.panic c) (a.put d v) w → Q (.panic c) a w)
    (h : wpQuiet P l.toArray (fun w' => ∃ k, w' = w.drewN k) (fun a1 => wpIdle P l.toArray (fun a' => ∀ w', (∃ k, w' = w.drewN k) → wpList P l.toArray Q (sel l T) a' w') (sel l I) a1) (sel l H) a) : (Code.region id l.toArray true).wp P Q a w := by
  simp only [ordB, Bool.and_eq_true, decide_eq_true_eq] at hB
  obtain ⟨⟨hsel, hlen⟩, hmix⟩ := hB
  refine wp_region_any hm ?_
  have := wpAny_of_wpM _ _ _ (wpM_ordH (P := P) (C := fun w' => ∃ k, w' = w.drewN k) (md := .any) rfl hQ hsel H (Array.replicate l.toArray.size false) a (fun j oj _ hl => by rw [getD_replicate_false] at hl; cases hl) hmix h) { w with drawn := w.drawn + 1 } ⟨1, rfl⟩
  rwa [hlen] at this

end
end Go.Proofs.Ytkgbeihcepociaa
end

section
/- Lemmas on memory that the proofs of this seat share: what a call keeps, rows of bytes, append. -/
set_option linter.unusedSimpArgs false
set_option linter.unusedVariables false
namespace Go.Proofs.Ytkgbeihcepociaa
open Go.RowKit

/-- All blocks that were there, but for those in F, are as they were. -/
structure Kept (F : Nat → Prop) (w w' : World) : Prop where
  os : w'.os = w.os
  tape : w'.tape = w.tape
  output : w'.output = w.output
  size : w.heap.size ≤ w'.heap.size
  block : ∀ k, k < w.heap.size → ¬ F k → w'.heap[k]? = w.heap[k]?

theorem Kept.refl (F : Nat → Prop) (w : World) : Kept F w w := ⟨rfl, rfl, rfl, Nat.le_refl _, fun _ _ _ => rfl⟩

theorem Kept.trans {F : Nat → Prop} {a b c : World} (h : Kept F a b) (k : Kept F b c) : Kept F a c :=
  ⟨k.os.trans h.os, k.tape.trans h.tape, k.output.trans h.output, Nat.le_trans h.size k.size,
    fun i hi hf => (k.block i (Nat.lt_of_lt_of_le hi h.size) hf).trans (h.block i hi hf)⟩

/-- What is written behind may lie in new blocks too. -/
theorem Kept.transNew {F G : Nat → Prop} {a b c : World} (h : Kept F a b) (k : Kept G b c) (hg : ∀ i, i < a.heap.size → G i → F i) : Kept F a c :=
  ⟨k.os.trans h.os, k.tape.trans h.tape, k.output.trans h.output, Nat.le_trans h.size k.size,
    fun i hi hf => (k.block i (Nat.lt_of_lt_of_le hi h.size) (fun q => hf (hg i hi q))).trans (h.block i hi hf)⟩

theorem Kept.mono {F G : Nat → Prop} {w w' : World} (h : Kept F w w') (hg : ∀ i, i < w.heap.size → F i → G i) : Kept G w w' :=
  ⟨h.os, h.tape, h.output, h.size, fun k hk hn => h.block k hk (fun q => hn (hg k hk q))⟩

theorem Kept.drewN (F : Nat → Prop) (w : World) (n : Nat) : Kept F w (w.drewN n) := ⟨rfl, rfl, rfl, Nat.le_refl _, fun _ _ _ => rfl⟩
theorem Kept.drew (F : Nat → Prop) (w : World) : Kept F w w.drew := ⟨rfl, rfl, rfl, Nat.le_refl _, fun _ _ _ => rfl⟩
theorem Kept.alloc (F : Nat → Prop) (w : World) (o : Obj) : Kept F w (w.alloc o) := ⟨rfl, rfl, rfl, by simp, fun k hk _ => Below.heap_alloc w o k hk⟩
theorem Kept.setCell {F : Nat → Prop} (w : World) (a : Addr) (u : Value) (h : F a.block) : Kept F w (w.setCell a u) :=
  ⟨rfl, rfl, rfl, by simp [World.setCell], fun k _ hn => Below.heap_setCell _ _ _ _ (fun e => hn (e ▸ h))⟩

theorem Kept.dN {F : Nat → Prop} {a w : World} (h : Kept F a w) (n : Nat) : Kept F a (w.drewN n) := h.trans (Kept.drewN _ _ _)
theorem Kept.dr {F : Nat → Prop} {a w : World} (h : Kept F a w) : Kept F a w.drew := h.trans (Kept.drew _ _)
theorem Kept.al {F : Nat → Prop} {a w : World} (h : Kept F a w) (o : Obj) : Kept F a (w.alloc o) := h.trans (Kept.alloc _ _ _)
/-- A store into a block of F, or into a new one. -/
theorem Kept.st {F : Nat → Prop} {a w : World} (h : Kept F a w) {p : Addr} (u : Value) (hp : F p.block ∨ a.heap.size ≤ p.block) : Kept F a (w.setCell p u) :=
  h.transNew (Kept.setCell (F := fun k => k = p.block) w p u rfl) (by rintro i hi rfl; rcases hp with hp | hp; exact hp; omega)

/-- What is written behind lies in F, or is new. -/
theorem Kept.thn {F G : Nat → Prop} {a b c : World} (h : Kept F a b) (k : Kept G b c) (hg : ∀ i, G i → F i ∨ a.heap.size ≤ i) : Kept F a c :=
  h.transNew k (fun i hi q => by rcases hg i q with e | e; exact e; omega)

theorem Kept.below {F : Nat → Prop} {w w' : World} {B : Nat} (h : Kept F w w') (hb : B ≤ w.heap.size) (hf : ∀ k, F k → B ≤ k) : Below B w w' :=
  ⟨h.os, h.tape, h.output, h.size, fun k hk => h.block k (by omega) (fun q => by have := hf k q; omega)⟩

theorem Kept.ofBelow {w w' : World} (h : Below w.heap.size w w') (F : Nat → Prop) : Kept F w w' := ⟨h.os, h.tape, h.output, h.size, fun k hk _ => h.block k hk⟩

theorem Kept.cell {F : Nat → Prop} {w w' : World} (h : Kept F w w') {a : Addr} (hl : a.block < w.heap.size) (hn : ¬ F a.block) : w'.cell? a = w.cell? a :=
  World.cell?_of_block (h.block _ hl hn)

theorem heap_alloc_new' (w : World) (o : Obj) : (w.alloc o).heap[w.heap.size]? = some o := by
  show (w.heap.push o)[w.heap.size]? = _
  simp

/-- Two new blocks. -/
theorem two_new (w : World) (a b : Obj) : Kept (fun _ => False) w ((w.alloc a).alloc b) ∧ ((w.alloc a).alloc b).heap[w.heap.size]? = some a ∧ ((w.alloc a).alloc b).heap[w.heap.size + 1]? = some b := by
  refine ⟨(Kept.alloc _ _ _).al _, (Below.heap_alloc _ _ _ (by simp)).trans (heap_alloc_new' w a), ?_⟩
  have := heap_alloc_new' (w.alloc a) b
  simpa using this

/-- A byte's cell. -/
def bv (b : UInt8) : Value := .int .u8 (b.toNat : Int)

/-- A slice value whose elements, of 'size' cells each, read as the cells l; g: the block in which they lie. -/
def Reads (w : World) (size : Nat) (v : Value) (n : Nat) (l : List Value) (g : Option Nat) : Prop :=
  l.length = n * size ∧ ((∃ a c, v = .slice a 0 c ∧ n = 0) ∨
    ∃ b off c, g = some b ∧ v = .slice (some ⟨b, off, none⟩) n c ∧ n ≤ c ∧ c ≤ maxLen ∧ ∀ j, j < l.length → w.cell? ⟨b, off + j, none⟩ = l[j]?)

/-- A slice value that owns its row: block g, of cells of type e, all of which may be written. -/
def Own (w : World) (e : TypeId) (size : Nat) (v : Value) (n : Nat) (l : List Value) (g : Option Nat) : Prop :=
  l.length = n * size ∧ ((g = none ∧ v = .slice none 0 0 ∧ n = 0) ∨
    ∃ b off c cur, g = some b ∧ v = .slice (some ⟨b, off, none⟩) n c ∧ n ≤ c ∧ c ≤ maxLen ∧ w.heap[b]? = some (.cells cur e (0, 0)) ∧ off + c * size ≤ cur.size ∧ ∀ j, j < l.length → cur[off + j]? = l[j]?)

theorem cell_in {w : World} {g k : Nat} {cur : Array Value} {e : TypeId} {fz : Nat × Nat} (h : w.heap[g]? = some (.cells cur e fz)) : w.cell? ⟨g, k, none⟩ = cur[k]? := by
  simp [World.cell?, h]

theorem frozen_in {w : World} {g k : Nat} {cur : Array Value} {e : TypeId} (h : w.heap[g]? = some (.cells cur e (0, 0))) : w.frozen? ⟨g, k, none⟩ = false := by
  simp [World.frozen?, h]

theorem lt_in {w : World} {g : Nat} {o : Obj} (h : w.heap[g]? = some o) : g < w.heap.size := by simpa using (Array.getElem?_eq_some_iff.1 h).1

theorem heap_setCell_same {w : World} {g o : Nat} {cur : Array Value} {e : TypeId} {fz : Nat × Nat} (h : w.heap[g]? = some (.cells cur e fz)) (u : Value) :
    (w.setCell ⟨g, o, none⟩ u).heap[g]? = some (.cells (cur.setIfInBounds o u) e fz) := by
  simp [World.setCell, Array.getElem?_modify, h]

theorem Own.reads {w : World} {e size n : Nat} {g : Option Nat} {v : Value} {l : List Value} (h : Own w e size v n l g) : Reads w size v n l g := by
  obtain ⟨h0, ⟨rfl, rfl, rfl⟩ | ⟨b, off, c, cur, rfl, rfl, h1, h2, h3, h4, h5⟩⟩ := h
  · exact ⟨h0, .inl ⟨none, 0, rfl, rfl⟩⟩
  · exact ⟨h0, .inr ⟨b, off, c, rfl, rfl, h1, h2, fun j hj => by rw [cell_in h3]; exact h5 j hj⟩⟩

theorem Own.shape {w : World} {e size n : Nat} {g : Option Nat} {v : Value} {l : List Value} (h : Own w e size v n l g) : ∃ a c, v = .slice a n c ∧ n ≤ c ∧ c ≤ maxLen := by
  obtain ⟨h0, ⟨rfl, rfl, rfl⟩ | ⟨b, off, c, cur, rfl, rfl, h1, h2, h3, h4, h5⟩⟩ := h
  · exact ⟨_, _, rfl, Nat.le_refl _, Nat.zero_le _⟩
  · exact ⟨_, _, rfl, h1, h2⟩

/-- A row that is not empty. -/
theorem Own.pos {w : World} {e size n c : Nat} {a : Option Addr} {g : Option Nat} {l : List Value} (h : Own w e size (.slice a n c) n l g) (hn : 0 < n) :
    ∃ b off cur, g = some b ∧ a = some ⟨b, off, none⟩ ∧ n ≤ c ∧ c ≤ maxLen ∧ w.heap[b]? = some (.cells cur e (0, 0)) ∧ off + c * size ≤ cur.size ∧ l.length = n * size ∧ ∀ j, j < l.length → cur[off + j]? = l[j]? := by
  obtain ⟨h0, ⟨rfl, h1, rfl⟩ | ⟨b, off, c', cur, rfl, h1, h2, h3, h4, h5, h6⟩⟩ := h
  · omega
  · simp at h1
    obtain ⟨rfl, rfl⟩ := h1
    exact ⟨b, off, cur, rfl, rfl, h2, h3, h4, h5, h0, h6⟩

theorem Own.lt {w : World} {e size n : Nat} {g : Option Nat} {v : Value} {l : List Value} (h : Own w e size v n l g) : ∀ k, g = some k → k < w.heap.size := by
  obtain ⟨h0, ⟨rfl, rfl, rfl⟩ | ⟨b, off, c, cur, rfl, rfl, h1, h2, h3, h4, h5⟩⟩ := h
  · rintro k ⟨⟩
  · rintro k ⟨⟩; exact lt_in h3

theorem Reads.shape {w : World} {size n : Nat} {g : Option Nat} {v : Value} {l : List Value} (h : Reads w size v n l g) : ∃ a c, v = .slice a n c ∧ n ≤ c := by
  obtain ⟨-, ⟨a, c, rfl, hx⟩ | ⟨b, off, c, -, rfl, h1, -⟩⟩ := h
  · rw [hx]; exact ⟨_, _, rfl, Nat.zero_le _⟩
  · exact ⟨_, _, rfl, h1⟩

/-- An empty row in a new block. -/
theorem own_empty (w : World) (e : TypeId) : Own (w.alloc (.cells #[] e)) e 1 (.slice (some ⟨w.heap.size, 0, none⟩) 0 0) 0 [] (some w.heap.size) :=
  ⟨by simp, .inr ⟨w.heap.size, 0, 0, #[], rfl, rfl, Nat.le_refl _, Nat.zero_le _, heap_alloc_new w _, by simp, fun j hj => by simp at hj⟩⟩

theorem Reads.heap {w w' : World} {size n : Nat} {g : Option Nat} {v : Value} {l : List Value} (h : Reads w size v n l g) (hg : ∀ k, g = some k → l ≠ [] → w'.heap[k]? = w.heap[k]?) : Reads w' size v n l g := by
  obtain ⟨h0, h1 | ⟨b, off, c, rfl, rfl, h1, h2, h3⟩⟩ := h
  · exact ⟨h0, .inl h1⟩
  · refine ⟨h0, .inr ⟨b, off, c, rfl, rfl, h1, h2, fun j hj => ?_⟩⟩
    rw [World.cell?_of_block (a := ⟨b, off + j, none⟩) (hg b rfl (by intro e; subst e; simp at hj))]
    exact h3 j hj

theorem Reads.lt {w : World} {size n : Nat} {g : Option Nat} {v : Value} {l : List Value} (h : Reads w size v n l g) (hl : l ≠ []) : ∀ k, g = some k → k < w.heap.size := by
  obtain ⟨h0, ⟨a, c, rfl, rfl⟩ | ⟨b, off, c, rfl, rfl, h1, h2, h3⟩⟩ := h
  · exact absurd (List.eq_nil_of_length_eq_zero (by simpa using h0)) hl
  · rintro k ⟨⟩
    have hp : 0 < l.length := List.length_pos_iff.2 hl
    have := h3 0 hp
    rw [List.getElem?_eq_getElem hp] at this
    exact World.block_lt_of_cell? _ _ this

theorem Reads.kept {F : Nat → Prop} {w w' : World} {size n : Nat} {g : Option Nat} {v : Value} {l : List Value} (h : Reads w size v n l g) (hk : Kept F w w') (hf : ∀ k, g = some k → ¬ F k) : Reads w' size v n l g :=
  h.heap fun k hg hl => hk.block k (h.lt hl k hg) (hf k hg)

theorem Reads.drewN {w : World} {size n : Nat} {g : Option Nat} {v : Value} {l : List Value} (h : Reads w size v n l g) (m : Nat) : Reads (w.drewN m) size v n l g := h.heap fun _ _ _ => rfl
theorem Reads.drew {w : World} {size n : Nat} {g : Option Nat} {v : Value} {l : List Value} (h : Reads w size v n l g) : Reads w.drew size v n l g := h.heap fun _ _ _ => rfl

theorem Own.heap {w w' : World} {e size n : Nat} {g : Option Nat} {v : Value} {l : List Value} (h : Own w e size v n l g) (hg : ∀ k, g = some k → w'.heap[k]? = w.heap[k]?) : Own w' e size v n l g := by
  obtain ⟨h0, h1 | ⟨b, off, c, cur, rfl, rfl, h1, h2, h3, h4, h5⟩⟩ := h
  · exact ⟨h0, .inl h1⟩
  · exact ⟨h0, .inr ⟨b, off, c, cur, rfl, rfl, h1, h2, (hg b rfl).trans h3, h4, h5⟩⟩

theorem Own.kept {F : Nat → Prop} {w w' : World} {e size n : Nat} {g : Option Nat} {v : Value} {l : List Value} (h : Own w e size v n l g) (hk : Kept F w w') (hf : ∀ k, g = some k → ¬ F k) : Own w' e size v n l g :=
  h.heap fun k hg => hk.block k (h.lt k hg) (hf k hg)

theorem Own.drewN {w : World} {e size n : Nat} {g : Option Nat} {v : Value} {l : List Value} (h : Own w e size v n l g) (m : Nat) : Own (w.drewN m) e size v n l g := h.heap fun _ _ => rfl
theorem Own.drew {w : World} {e size n : Nat} {g : Option Nat} {v : Value} {l : List Value} (h : Own w e size v n l g) : Own w.drew e size v n l g := h.heap fun _ _ => rfl

theorem Own.nil (w : World) (e size : Nat) : Own w e size (.slice none 0 0) 0 [] none := ⟨by simp, .inl ⟨rfl, rfl, rfl⟩⟩

/-- A row lies apart from a block of another type. -/
theorem Own.ne {w : World} {e e' size n p : Nat} {g : Option Nat} {v : Value} {l : List Value} {cs : Array Value} {fz : Nat × Nat} (h : Own w e size v n l g) (hp : w.heap[p]? = some (.cells cs e' fz)) (he : e ≠ e') : ∀ k, g = some k → k ≠ p := by
  obtain ⟨h0, ⟨rfl, rfl, rfl⟩ | ⟨b, off, c, cur, rfl, rfl, h1, h2, h3, h4, h5⟩⟩ := h
  · rintro k ⟨⟩
  · rintro k ⟨⟩ rfl
    rw [h3] at hp
    simp at hp
    exact he hp.2.1

theorem addr_add (b off k : Nat) : (⟨b, off, none⟩ : Addr).add k = ⟨b, off + k, none⟩ := by unfold Addr.add; split <;> simp_all

/-- A part of a row. -/
theorem Reads.sliced {w : World} {size n c : Nat} {a : Option Addr} {g : Option Nat} {l : List Value} (h : Reads w size (.slice a n c) n l g) {lo hi m : Nat} (h1 : lo ≤ hi) (h2 : hi ≤ n) (h3 : hi ≤ m) (h4 : m ≤ c) :
    Reads w size (Go.sliced a lo hi m size) (hi - lo) ((l.drop (lo * size)).take ((hi - lo) * size)) g := by
  obtain ⟨h0, ⟨a', c', e, rfl⟩ | ⟨b, off, c', rfl, e, h5, h6, h7⟩⟩ := h
  · obtain rfl : hi = 0 := by omega
    obtain rfl : lo = 0 := by omega
    exact ⟨by simp, .inl ⟨_, _, rfl, by omega⟩⟩
  · simp at e
    obtain ⟨rfl, rfl⟩ := e
    have hmul : (hi - lo) * size = hi * size - lo * size := Nat.sub_mul _ _ _
    have hmul2 : hi * size ≤ n * size := Nat.mul_le_mul_right _ h2
    have hmul3 : lo * size ≤ hi * size := Nat.mul_le_mul_right _ h1
    refine ⟨by rw [List.length_take, List.length_drop]; omega, .inr ?_⟩
    by_cases hm : m = lo
    · subst hm
      obtain rfl : hi = m := by omega
      refine ⟨b, off, 0, rfl, by simp [Go.sliced], by omega, by omega, fun j hj => ?_⟩
      simp at hj
    · refine ⟨b, off + lo * size, m - lo, rfl, by simp [Go.sliced, hm, addr_add], by omega, by omega, fun j hj => ?_⟩
      rw [List.length_take, List.length_drop] at hj
      rw [List.getElem?_take, if_pos (by omega), List.getElem?_drop, ← h7 _ (by omega), Nat.add_assoc]

theorem Own.sliced {w : World} {e size n c : Nat} {a : Option Addr} {g : Option Nat} {l : List Value} (h : Own w e size (.slice a n c) n l g) {lo hi m : Nat} (h1 : lo ≤ hi) (h2 : hi ≤ n) (h3 : hi ≤ m) (h4 : m ≤ c) :
    Own w e size (Go.sliced a lo hi m size) (hi - lo) ((l.drop (lo * size)).take ((hi - lo) * size)) g := by
  obtain ⟨h0, ⟨rfl, e, rfl⟩ | ⟨b, off, c', cur, rfl, e, h5, h6, h7, h8, h9⟩⟩ := h
  · simp at e
    obtain ⟨rfl, rfl⟩ := e
    obtain rfl : hi = 0 := by omega
    obtain rfl : lo = 0 := by omega
    obtain rfl : m = 0 := by omega
    exact ⟨by simp, .inl ⟨rfl, by simp [Go.sliced], by omega⟩⟩
  · simp at e
    obtain ⟨rfl, rfl⟩ := e
    have hmul : (hi - lo) * size = hi * size - lo * size := Nat.sub_mul _ _ _
    have hmul2 : hi * size ≤ n * size := Nat.mul_le_mul_right _ h2
    have hmul3 : lo * size ≤ hi * size := Nat.mul_le_mul_right _ h1
    have hmul4 : (m - lo) * size = m * size - lo * size := Nat.sub_mul _ _ _
    have hmul5 : m * size ≤ c * size := Nat.mul_le_mul_right _ h4
    have hmul6 : lo * size ≤ m * size := Nat.mul_le_mul_right _ (by omega)
    refine ⟨by rw [List.length_take, List.length_drop]; omega, .inr ?_⟩
    by_cases hm : m = lo
    · subst hm
      obtain rfl : hi = m := by omega
      refine ⟨b, off, 0, cur, rfl, by simp [Go.sliced], by omega, by omega, h7, by omega, fun j hj => ?_⟩
      simp at hj
    · refine ⟨b, off + lo * size, m - lo, cur, rfl, by simp [Go.sliced, hm, addr_add], by omega, by omega, h7, by omega, fun j hj => ?_⟩
      rw [List.length_take, List.length_drop] at hj
      rw [List.getElem?_take, if_pos (by omega), List.getElem?_drop, ← h9 _ (by omega), Nat.add_assoc]

theorem bv_one (l : List UInt8) : ∀ u ∈ l.map bv, u.oneCell' = true := by
  intro u hu
  obtain ⟨_, _, rfl⟩ := List.mem_map.1 hu
  rfl

theorem heap_setCells {g : Nat} {e : TypeId} {fz : Nat × Nat} : ∀ (vs : List Value) (o : Nat) (w : World) (cur : Array Value), w.heap[g]? = some (.cells cur e fz) → o + vs.length ≤ cur.size →
    ∃ cur', (w.setCells g o vs).heap[g]? = some (.cells cur' e fz) ∧ cur'.size = cur.size ∧ ∀ k, cur'[k]? = if o ≤ k ∧ k < o + vs.length then vs[k - o]? else cur[k]?
  | [], o, w, cur, h, _ => ⟨cur, h, rfl, fun k => by rw [if_neg (by simp)]⟩
  | v :: r, o, w, cur, h, hl => by
    have h1 : (w.setCell ⟨g, o, none⟩ v).heap[g]? = some (.cells (cur.setIfInBounds o v) e fz) := by
      simp [World.setCell, Array.getElem?_modify, h]
    simp only [List.length_cons] at hl
    obtain ⟨cur', h2, h3, h4⟩ := heap_setCells r (o + 1) _ _ h1 (by simp; omega)
    refine ⟨cur', h2, by simpa using h3, fun k => ?_⟩
    rw [h4 k]
    simp only [List.length_cons]
    by_cases hk : k = o
    · subst hk
      rw [if_neg (by omega), if_pos (by omega)]
      simp [Array.getElem?_setIfInBounds]
      omega
    · by_cases hk2 : o + 1 ≤ k ∧ k < o + 1 + r.length
      · rw [if_pos hk2, if_pos (by omega), show k - o = (k - (o + 1)) + 1 by omega, List.getElem?_cons_succ]
      · rw [if_neg hk2, if_neg (by omega), Array.getElem?_setIfInBounds, if_neg (by omega)]

theorem size_setCells' (b : Nat) : ∀ (vs : List Value) (o : Nat) (w : World), (w.setCells b o vs).heap.size = w.heap.size
  | [], _, _ => rfl
  | v :: r, o, w => by rw [World.setCells, size_setCells' b r]; simp [World.setCell]

theorem tape_setCells' (b : Nat) : ∀ (vs : List Value) (o : Nat) (w : World), (w.setCells b o vs).tape = w.tape
  | [], _, _ => rfl
  | v :: r, o, w => by rw [World.setCells, tape_setCells' b r]; rfl

theorem other_setCells' (b : Nat) : ∀ (vs : List Value) (o : Nat) (w : World) (k : Nat), k ≠ b → (w.setCells b o vs).heap[k]? = w.heap[k]?
  | [], _, _, _, _ => rfl
  | v :: r, o, w, k, hk => by rw [World.setCells, other_setCells' b r _ _ _ hk]; exact Below.heap_setCell _ _ _ _ hk

theorem os_setCells' (b : Nat) : ∀ (vs : List Value) (o : Nat) (w : World), (w.setCells b o vs).os = w.os ∧ (w.setCells b o vs).output = w.output
  | [], _, _ => ⟨rfl, rfl⟩
  | v :: r, o, w => by rw [World.setCells]; exact os_setCells' b r _ _

theorem Kept.setCells {F : Nat → Prop} (w : World) (b o : Nat) (vs : List Value) (h : F b) : Kept F w (w.setCells b o vs) :=
  ⟨(os_setCells' b vs o w).1, tape_setCells' b vs o w, (os_setCells' b vs o w).2, by rw [size_setCells']; exact Nat.le_refl _,
    fun k _ hn => other_setCells' b vs o w k (fun e => hn (e ▸ h))⟩

section
variable {P : Program}

theorem wp_region_tail {id : Nat} {Q : Exit → Act → World → Prop} {a : Act} {w : World} {l : List Oper} (n : Nat) (hm : P.follows .mixedOrders = true) (hB : Region.lexTailB .any l.toArray n = true)
    (h : wpStill P l.toArray w.drew (fun a' => wpList P l.toArray Q (l.drop n) a' w.drew) (l.take n) a) : (Code.region id l.toArray true).wp P Q a w := wp_region_still_tail n hm hB h

/-- 'x[lo:hi]', as the walk finds it: the value has a name. -/
theorem Reads.slice_run {w : World} {t e size n c : Nat} {a : Option Addr} {g : Option Nat} {l : List Value} (h : Reads w size (.slice a n c) n l g) (ht : P.underlying t = some (.slice e)) (he : (P.info? e).map (·.size) = some size) (hc : n ≤ c) {lo hi : Int} {k : Nat} (h0 : 0 ≤ lo) (h1 : hi = lo + k) (h2 : hi ≤ n) :
    ∃ a' c', (∀ w', (Instr.sliceAt t (.slice a n c) (some (.int .i64 lo)) (some (.int .i64 hi)) none).run P w' = .ok (.slice a' k c') w') ∧ Reads w size (.slice a' k c') k ((l.drop (lo.toNat * size)).take (k * size)) g := by
  obtain ⟨i, hi0, his⟩ : ∃ i, P.info? e = some i ∧ i.size = size := by
    cases hq : P.info? e with
    | none => simp [hq] at he
    | some i => exact ⟨i, rfl, by simpa [hq] using he⟩
  have hh : k = hi.toNat - lo.toNat := by omega
  have := h.sliced (lo := lo.toNat) (hi := hi.toNat) (m := c) (by omega) (by omega) (by omega) (Nat.le_refl _)
  rw [hh]
  refine ⟨_, _, fun w' => ?_, this⟩
  have e2 : (hi.toNat : Int) = hi := Int.toNat_of_nonneg (by omega)
  have e3 : hi ≤ (c : Int) := by omega
  simp [Instr.sliceAt, Instr.slice, run_underlying ht, Instr.sliceBounds, run_sliceBound, sizeOf, typeInfo, hi0, his, h0, (by omega : lo ≤ hi), e3, e2, (by omega : 0 ≤ hi)]

theorem Own.slice3_run {w : World} {t e size n c : Nat} {a : Option Addr} {g : Option Nat} {l : List Value} (h : Own w e size (.slice a n c) n l g) (ht : P.underlying t = some (.slice e)) (he : (P.info? e).map (·.size) = some size) (hc : n ≤ c) {hi : Int} (h0 : 0 ≤ hi) (h2 : hi ≤ n) :
    ∃ a' c', (∀ w', (Instr.sliceAt t (.slice a n c) none (some (.int .i64 hi)) (some (.int .i64 hi))).run P w' = .ok (.slice a' hi.toNat c') w') ∧ Own w e size (.slice a' hi.toNat c') hi.toNat (l.take (hi.toNat * size)) g := by
  obtain ⟨i, hi0, his⟩ : ∃ i, P.info? e = some i ∧ i.size = size := by
    cases hq : P.info? e with
    | none => simp [hq] at he
    | some i => exact ⟨i, rfl, by simpa [hq] using he⟩
  have := h.sliced (lo := 0) (hi := hi.toNat) (m := hi.toNat) (by omega) (by omega) (by omega) (by omega)
  simp only [Nat.zero_mul, List.drop_zero, Nat.sub_zero] at this
  refine ⟨_, _, fun w' => ?_, this⟩
  have e2 : (hi.toNat : Int) = hi := Int.toNat_of_nonneg (by omega)
  have e3 : hi ≤ (c : Int) := by omega
  simp [Instr.sliceAt, Instr.slice, run_underlying ht, Instr.sliceBounds, run_sliceBound, sizeOf, typeInfo, hi0, h0, e3, e2]

theorem Reads.sliceTo_run {w : World} {t e size n c : Nat} {a : Option Addr} {g : Option Nat} {l : List Value} (h : Reads w size (.slice a n c) n l g) (ht : P.underlying t = some (.slice e)) (he : (P.info? e).map (·.size) = some size) (hc : n ≤ c) {hi : Int} {k : Nat} (h1 : hi = k) (h2 : hi ≤ n) :
    ∃ a' c', (∀ w', (Instr.sliceAt t (.slice a n c) none (some (.int .i64 hi)) none).run P w' = .ok (.slice a' k c') w') ∧ Reads w size (.slice a' k c') k (l.take (k * size)) g := by
  obtain ⟨i, hi0, his⟩ : ∃ i, P.info? e = some i ∧ i.size = size := by
    cases hq : P.info? e with
    | none => simp [hq] at he
    | some i => exact ⟨i, rfl, by simpa [hq] using he⟩
  have := h.sliced (lo := 0) (hi := k) (m := c) (by omega) (by omega) (by omega) (Nat.le_refl _)
  simp only [Nat.zero_mul, List.drop_zero, Nat.sub_zero] at this
  refine ⟨_, _, fun w' => ?_, this⟩
  have e1 : hi.toNat = k := by omega
  have e3 : hi ≤ (c : Int) := by omega
  simp [Instr.sliceAt, Instr.slice, run_underlying ht, Instr.sliceBounds, run_sliceBound, sizeOf, typeInfo, hi0, his, e3, e1, (by omega : 0 ≤ hi)]

theorem Reads.sliceFrom_run {w : World} {t e size n c : Nat} {a : Option Addr} {g : Option Nat} {l : List Value} (h : Reads w size (.slice a n c) n l g) (ht : P.underlying t = some (.slice e)) (he : (P.info? e).map (·.size) = some size) (hc : n ≤ c) {lo : Int} (h0 : 0 ≤ lo) (h1 : lo ≤ n) :
    ∃ a' c', (∀ w', (Instr.sliceAt t (.slice a n c) (some (.int .i64 lo)) none none).run P w' = .ok (.slice a' (n - lo.toNat) c') w') ∧ Reads w size (.slice a' (n - lo.toNat) c') (n - lo.toNat) (l.drop (lo.toNat * size)) g := by
  obtain ⟨i, hi0, his⟩ : ∃ i, P.info? e = some i ∧ i.size = size := by
    cases hq : P.info? e with
    | none => simp [hq] at he
    | some i => exact ⟨i, rfl, by simpa [hq] using he⟩
  have := h.sliced (lo := lo.toNat) (hi := n) (m := c) (by omega) (by omega) (by omega) (Nat.le_refl _)
  have hl : l.length = n * size := h.1
  rw [List.take_of_length_le (by rw [List.length_drop, hl, Nat.sub_mul]; exact Nat.le_refl _)] at this
  refine ⟨_, _, fun w' => ?_, this⟩
  simp [Instr.sliceAt, Instr.slice, run_underlying ht, Instr.sliceBounds, run_sliceBound, sizeOf, typeInfo, hi0, his, h0, h1]

theorem Reads.src {w : World} {size n : Nat} {g : Option Nat} {v : Value} {l : List Value} (h : Reads w size v n l g) {tx e' : TypeId} (hk : P.underlying tx = some (.slice e')) (h1 : ∀ u ∈ l, u.oneCell' = true) : Src P size tx v n l w := by
  obtain ⟨h0, ⟨a, c, rfl, rfl⟩ | ⟨b, off, c, rfl, rfl, h2, h3, h4⟩⟩ := h
  · obtain rfl : l = [] := List.eq_nil_of_length_eq_zero (by simpa using h0)
    cases a with
    | none => exact Src.ofNil w hk c
    | some a => exact Src.ofSlice w hk a 0 c [] (by simp) (fun j u hu => by simp at hu) h1
  · refine Src.ofSlice w hk _ n c l h0 (fun j u hu => ?_) h1
    have hj : j < l.length := (List.getElem?_eq_some_iff.1 hu).1
    have hadd : (⟨b, off, none⟩ : Addr).add j = ⟨b, off + j, none⟩ := by unfold Addr.add; split <;> simp_all
    rw [hadd, h4 j hj, hu]

theorem foldl_push_bytes : ∀ (l : List UInt8) (s : ByteArray), (l.map fun b => (b.toNat : Int)).foldl (fun r n => r.push (UInt8.ofNat n.toNat)) s = ⟨s.data ++ l.toArray⟩
  | [], s => by simp
  | b :: r, s => by
    simp only [List.map_cons, List.foldl_cons]
    rw [foldl_push_bytes r]
    have : UInt8.ofNat ((b.toNat : Int)).toNat = b := by simp
    rw [this]
    congr 1
    simp [ByteArray.push]

/-- 'string(b)'. -/
theorem Reads.string_run {w : World} {src dst e n : Nat} {v : Value} {g : Option Nat} {bs : List UInt8} (h : Reads w 1 v n (bs.map bv) g) (hs : P.underlying src = some (.slice e)) (he : P.underlying e = some (.int .u8)) (hd : P.underlying dst = some .string) :
    (convert src dst v).run P w = .ok (.string ⟨bs.toArray⟩) w := by
  obtain ⟨h0, ⟨a, c, rfl, rfl⟩ | ⟨b, off, c, rfl, rfl, h2, h3, h4⟩⟩ := h
  · obtain rfl : bs = [] := List.eq_nil_of_length_eq_zero (by simpa using h0)
    rw [run_convert_bytes_string w src dst e a 0 c hs he hd]
    cases a with
    | none => simp [Conv.bytesToString, ByteArray.empty, ByteArray.emptyWithCapacity]; rfl
    | some a =>
      have hl := run_firstCells_some (P := P) w 1 0 a 0 c [] (by simp) (fun j u hu => by simp at hu)
      simp only [Builtin.firstCells, Nat.mul_one] at hl
      rw [run_bytesToString w _ _ _ [] (by simpa using hl)]
      rfl
  · have hn : n = bs.length := by simpa using h0.symm
    subst hn
    rw [run_convert_bytes_string w src dst e _ _ c hs he hd]
    have hm : bs.map bv = (bs.map fun b => (b.toNat : Int)).map (Value.int .u8) := by simp [bv, Function.comp_def]
    have hl := run_firstCells_some (P := P) w 1 bs.length ⟨b, off, none⟩ bs.length c (bs.map bv) (by simp) (fun j u hu => by
      have hj : j < (bs.map bv).length := (List.getElem?_eq_some_iff.1 hu).1
      rw [addr_add, h4 j hj, hu])
    simp only [Builtin.firstCells, Nat.mul_one] at hl
    rw [hm] at hl
    rw [run_bytesToString w _ _ _ _ hl, foldl_push_bytes]
    simp [ByteArray.empty, ByteArray.emptyWithCapacity]
    rfl

/-- 'append(s, x...)', s a row of the call's own. -/
theorem run_append_Own {w : World} (t tx ty e : TypeId) (i : TypeInfo) (z : Value) (size bytes : Nat) (ht : P.underlying t = some (.slice e)) (hi : P.info? e = some i) (hz : i.zero = some z)
    (hsize : i.size = size) (hby : i.bytes = bytes) (hzs : z.cells.size = size) {v : Value} {n : Nat} {l : List Value} {g : Option Nat} (hown : Own w e size v n l g)
    {x : Value} {m : Nat} {news : List Value} (hs : Src P size tx x m news w) (h63 : n + m ≤ maxLen) (hbytes : (n + m) * bytes ≤ 140737488355328) :
    ∃ v' w' g', (Builtin.append_ #[t, tx] ty #[v, x]).run P w = .ok v' w' ∧ Own w' e size v' (n + m) (l ++ news) g' ∧ Kept (fun k => g = some k) w w' ∧ (∀ k, g' = some k → g = some k ∨ w.heap.size ≤ k) := by
  subst hsize
  subst hby
  have hnl := hs.newsLen
  have hsmall : n + m ≤ 9223372036854775807 := by simp only [maxLen] at h63; omega
  obtain ⟨h0, h⟩ := hown
  have hlen : (l ++ news).length = (n + m) * i.size := by rw [List.length_append, h0, hnl, Nat.add_mul]
  have grow : ∀ (base : Option Addr) (c : Nat), v = .slice base n c → c < n + m → (Builtin.firstCells i.size n (.slice base n c)).run P w.drew = .ok l.toArray w.drew →
      ∃ v' w' g', (Builtin.append_ #[t, tx] ty #[v, x]).run P w = .ok v' w' ∧ Own w' e i.size v' (n + m) (l ++ news) g' ∧ Kept (fun k => g = some k) w w' ∧ (∀ k, g' = some k → g = some k ∨ w.heap.size ≤ k) := by
    rintro base c rfl hc hold
    have hge := grownCap_ge w (n + m) c e
    have hcm : grownCap w (n + m) c e ≤ maxLen := grownCap_le_maxLen w (n + m) c e h63
    refine ⟨_, _, some w.heap.size, run_append_grow_src (P := P) w t tx ty e i z ht hi hz base n c l hold x m news hs hc (by omega) (growslice_fits hc hbytes),
      ⟨hlen, .inr ⟨w.heap.size, 0, _, _, rfl, rfl, hge, hcm, heap_alloc_new w.drew _, ?_, fun j hj => ?_⟩⟩, (Kept.drew _ w).trans (Kept.alloc _ _ _), (by rintro k ⟨⟩; exact .inr (Nat.le_refl _))⟩
    · simp only [Array.size_append, List.size_toArray, size_zeroCells, hzs, hlen, ← Nat.add_mul, Nat.zero_add]
      exact Nat.mul_le_mul_right _ (by omega)
    · rw [Nat.zero_add, Array.getElem?_append_left (by simpa using hj), List.getElem?_toArray]
  rcases h with ⟨rfl, rfl, rfl⟩ | ⟨b, off, c, cur, rfl, rfl, h1, h2, h3, h4, h5⟩
  · obtain rfl : l = [] := List.eq_nil_of_length_eq_zero (by simpa using h0)
    by_cases hm : m = 0
    · subst hm
      obtain rfl : news = [] := List.eq_nil_of_length_eq_zero (by simpa using hnl)
      refine ⟨.slice none 0 0, w, none, ?_, ⟨by simp, .inl ⟨rfl, rfl, rfl⟩⟩, Kept.refl _ _, (by rintro k ⟨⟩)⟩
      rcases hs.kind with ⟨e', hk⟩ | hk <;> simp [Builtin.append_, run_underlying ht, run_underlying hk, sizeOf, typeInfo, hi, hs.len, hs.cells]
    · exact grow none 0 rfl (by omega) (by simpa using run_firstCells_none (P := P) w.drew i.size 0 0 0)
  · by_cases hroom : n + m ≤ c
    · have hsz : (n + m) * i.size ≤ c * i.size := Nat.mul_le_mul_right _ hroom
      rw [Nat.add_mul] at hsz
      have hfit : off + n * i.size + news.length ≤ cur.size := by rw [hnl]; omega
      obtain ⟨cur', c1, c2, c3⟩ := heap_setCells news (off + n * i.size) w cur h3 hfit
      refine ⟨_, _, some b, run_append_room_src (P := P) w t tx ty e i ht hi b off n c x m news hs hroom (fun j hj => ?_) (fun j _ => frozen_in h3),
        ⟨hlen, .inr ⟨b, off, c, cur', rfl, rfl, hroom, h2, c1, by omega, fun j hj => ?_⟩⟩, Kept.setCells _ _ _ _ rfl, fun k hk => .inl hk⟩
      · rw [cell_in h3, Array.getElem?_eq_getElem (by omega)]; rfl
      · rw [c3]
        rw [List.length_append] at hj
        by_cases hjl : j < l.length
        · rw [if_neg (by omega), List.getElem?_append_left hjl]
          exact h5 j hjl
        · rw [if_pos (by omega), List.getElem?_append_right (by omega), h0]
          congr 1
          omega
    · refine grow _ c rfl (by omega) (run_firstCells_some (P := P) w.drew i.size n ⟨b, off, none⟩ n c l h0 (fun j u hu => ?_))
      have hj : j < l.length := (List.getElem?_eq_some_iff.1 hu).1
      have hadd : (⟨b, off, none⟩ : Addr).add j = ⟨b, off + j, none⟩ := by unfold Addr.add; split <;> simp_all
      rw [hadd, World.cell?_drew, cell_in h3, h5 j hj, hu]

theorem wpList_append_Own {w : World} {ops : Array Oper} {rest : List Oper} {o : Oper} {a : Act} {Q : Exit → Act → World → Prop} (hgd : o.guard = none) (s x : Operand) (t tx : TypeId)
    (ho : o.op = .call { callee := .builtin .append, args := #[s, x], argTypes := #[t, tx] })
    (e : TypeId) (i : TypeInfo) (z : Value) (size bytes : Nat) (ht : P.underlying t = some (.slice e)) (hi : P.info? e = some i) (hz : i.zero = some z)
    (hsize : i.size = size) (hby : i.bytes = bytes) (hzs : z.cells.size = size) {v : Value} {n : Nat} {l : List Value} {g : Option Nat} (hv : a.eval s = v) (hown : Own w e size v n l g)
    {y : Value} {m : Nat} {news : List Value} (hy : a.eval x = y) (hs : Src P size tx y m news w) (h63 : n + m ≤ maxLen) (hbytes : (n + m) * bytes ≤ 140737488355328)
    (h : ∀ a' c' w' g', Own w' e size (.slice a' (n + m) c') (n + m) (l ++ news) g' → Kept (fun k => g = some k) w w' → (∀ k, g' = some k → g = some k ∨ w.heap.size ≤ k) → wpList P ops Q rest (a.put o.dst (.slice a' (n + m) c')) w') : wpList P ops Q (o :: rest) a w := by
  obtain ⟨v', w', g', hr, h2, h3, h4⟩ := run_append_Own (P := P) t tx o.type e i z size bytes ht hi hz hsize hby hzs hown hs h63 hbytes
  obtain ⟨a', c', rfl, -, -⟩ := h2.shape
  refine wpList_plain hgd fun _ hK => ?_
  unfold Oper.wp execOp
  simp only [ho, resolve, invoke, builtin, Sem.run_bind, Sem.run_pure, Result.andThen_ok, List.map_toArray, List.map_cons, List.map_nil, hv, hy, hr]
  exact hK _ _ (h _ _ w' g' h2 h3 h4)

/-- The same, where a guard has said yes. -/
theorem wpList_append_OwnG {w : World} {ops : Array Oper} {rest : List Oper} {o : Oper} {a : Act} {Q : Exit → Act → World → Prop} (hgd : Region.wanted o (yielded ops a.tmps) = true) (s x : Operand) (t tx : TypeId)
    (ho : o.op = .call { callee := .builtin .append, args := #[s, x], argTypes := #[t, tx] })
    (e : TypeId) (i : TypeInfo) (z : Value) (size bytes : Nat) (ht : P.underlying t = some (.slice e)) (hi : P.info? e = some i) (hz : i.zero = some z)
    (hsize : i.size = size) (hby : i.bytes = bytes) (hzs : z.cells.size = size) {v : Value} {n : Nat} {l : List Value} {g : Option Nat} (hv : a.eval s = v) (hown : Own w e size v n l g)
    {y : Value} {m : Nat} {news : List Value} (hy : a.eval x = y) (hs : Src P size tx y m news w) (h63 : n + m ≤ maxLen) (hbytes : (n + m) * bytes ≤ 140737488355328)
    (h : ∀ a' c' w' g', Own w' e size (.slice a' (n + m) c') (n + m) (l ++ news) g' → Kept (fun k => g = some k) w w' → (∀ k, g' = some k → g = some k ∨ w.heap.size ≤ k) → wpList P ops Q rest (a.put o.dst (.slice a' (n + m) c')) w') : wpList P ops Q (o :: rest) a w := by
  obtain ⟨v', w', g', hr, h2, h3, h4⟩ := run_append_Own (P := P) t tx o.type e i z size bytes ht hi hz hsize hby hzs hown hs h63 hbytes
  obtain ⟨a', c', rfl, -, -⟩ := h2.shape
  refine BigFrame.wpList_want hgd fun _ hK => ?_
  unfold Oper.wp execOp
  simp only [ho, resolve, invoke, builtin, Sem.run_bind, Sem.run_pure, Result.andThen_ok, List.map_toArray, List.map_cons, List.map_nil, hv, hy, hr]
  exact hK _ _ (h _ _ w' g' h2 h3 h4)


end
end Go.Proofs.Ytkgbeihcepociaa
end

section
/- An abstract machine for closed runs: its values, its heap, its operations. -/
set_option linter.unusedSimpArgs false
set_option linter.unusedVariables false
namespace Go.Proofs.Ytkgbeihcepociaa.Ex
open Go

/-! Rows that are found fast: trees of numbers. -/

inductive Tri (α : Type) where
  | e
  | n (l : Tri α) (v : α) (r : Tri α)

variable {α : Type}

def Tri.get (d : α) : Tri α → Nat → α
  | .e, _ => d
  | .n l v r, k => bif Nat.ble k 1 then v else bif Nat.beq (k % 2) 0 then l.get d (k / 2) else r.get d (k / 2)

def Tri.lt : Tri α → Tri α
  | .e => .e
  | .n l _ _ => l

def Tri.rt : Tri α → Tri α
  | .e => .e
  | .n _ _ r => r

def Tri.top (d : α) : Tri α → α
  | .e => d
  | .n _ v _ => v

def Tri.put (d : α) : Nat → Tri α → Nat → α → Tri α
  | 0, t, _, _ => t
  | f + 1, t, k, x => bif Nat.ble k 1 then .n t.lt x t.rt else bif Nat.beq (k % 2) 0 then .n (Tri.put d f t.lt (k / 2) x) (t.top d) t.rt else .n t.lt (t.top d) (Tri.put d f t.rt (k / 2) x)

structure Vec (α : Type) where
  t : Tri α
  n : Nat

def vAt (d : α) (h : Vec α) (b : Nat) : Option α := bif Nat.blt b h.n then some (h.t.get d (b + 1)) else none

def vPut (d : α) (h : Vec α) (b : Nat) (x : α) : Vec α := bif Nat.blt b h.n then ⟨h.t.put d (Nat.log2 (b + 1) + 1) (b + 1) x, h.n⟩ else h

def vPush (d : α) (h : Vec α) (x : α) : Vec α := ⟨h.t.put d (Nat.log2 (h.n + 1) + 1) (h.n + 1) x, h.n + 1⟩

def vL (d : α) (h : Vec α) : List α := (List.range h.n).map fun b => h.t.get d (b + 1)

theorem get_put (d : α) : ∀ (f : Nat) (t : Tri α) (k j : Nat) (x : α), 1 ≤ k → 1 ≤ j → k < 2 ^ f → (t.put d f k x).get d j = if j = k then x else t.get d j
  | 0, t, k, j, x, hk, _, hf => by simp at hf; omega
  | f + 1, t, k, j, x, hk, hj, hf => by
    have e1 : t.get d j = if j ≤ 1 then t.top d else if j % 2 = 0 then t.lt.get d (j / 2) else t.rt.get d (j / 2) := by
      cases t with
      | e => simp [Tri.get, Tri.lt, Tri.rt, Tri.top]
      | n l v r =>
        simp only [Tri.get, Tri.lt, Tri.rt, Tri.top]
        by_cases h1 : j ≤ 1
        · rw [if_pos h1, Nat.ble_eq.mpr h1]; rfl
        · rw [if_neg h1, Bool.eq_false_iff.mpr (fun h => h1 (Nat.ble_eq.mp h))]
          by_cases h2 : j % 2 = 0
          · rw [if_pos h2, h2]; rfl
          · rw [if_neg h2, show Nat.beq (j % 2) 0 = false from Bool.eq_false_iff.mpr (fun h => h2 (Nat.eq_of_beq_eq_true h))]; rfl
    have e2 : ∀ (l : Tri α) (v : α) (r : Tri α), (Tri.n l v r).get d j = if j ≤ 1 then v else if j % 2 = 0 then l.get d (j / 2) else r.get d (j / 2) := fun l v r => by
      simp only [Tri.get]
      by_cases h1 : j ≤ 1
      · rw [if_pos h1, Nat.ble_eq.mpr h1]; rfl
      · rw [if_neg h1, Bool.eq_false_iff.mpr (fun h => h1 (Nat.ble_eq.mp h))]
        by_cases h2 : j % 2 = 0
        · rw [if_pos h2, h2]; rfl
        · rw [if_neg h2, show Nat.beq (j % 2) 0 = false from Bool.eq_false_iff.mpr (fun h => h2 (Nat.eq_of_beq_eq_true h))]; rfl
    rw [e1]
    simp only [Tri.put]
    by_cases h1 : k ≤ 1
    · rw [Nat.ble_eq.mpr h1]
      simp only [cond_true]
      rw [e2]
      by_cases hj1 : j ≤ 1
      · rw [if_pos hj1, if_pos (by omega)]
      · have hjk : ¬ j = k := by omega
        simp only [if_neg hj1, if_neg hjk]
    · rw [Bool.eq_false_iff.mpr (fun h => h1 (Nat.ble_eq.mp h))]
      simp only [cond_false]
      have hf2 : k / 2 < 2 ^ f := by rw [Nat.pow_succ] at hf; omega
      by_cases h2 : k % 2 = 0
      · rw [h2]
        rw [show Nat.beq 0 0 = true from rfl, cond_true, e2]
        by_cases hj1 : j ≤ 1
        · have hjk : ¬ j = k := by omega
          simp only [if_pos hj1, if_neg hjk]
        · simp only [if_neg hj1]
          by_cases hj2 : j % 2 = 0
          · simp only [if_pos hj2]
            rw [get_put d f _ _ _ _ (by omega) (by omega) hf2]
            by_cases hjk : j = k
            · rw [if_pos (by omega), if_pos hjk]
            · rw [if_neg (by omega), if_neg hjk]
          · have hjk : ¬ j = k := by omega
            simp only [if_neg hj2, if_neg hjk]
      · rw [show Nat.beq (k % 2) 0 = false from Bool.eq_false_iff.mpr (fun h => h2 (Nat.eq_of_beq_eq_true h)), cond_false, e2]
        by_cases hj1 : j ≤ 1
        · have hjk : ¬ j = k := by omega
          simp only [if_pos hj1, if_neg hjk]
        · simp only [if_neg hj1]
          by_cases hj2 : j % 2 = 0
          · have hjk : ¬ j = k := by omega
            simp only [if_pos hj2, if_neg hjk]
          · simp only [if_neg hj2]
            rw [get_put d f _ _ _ _ (by omega) (by omega) hf2]
            by_cases hjk : j = k
            · rw [if_pos (by omega), if_pos hjk]
            · rw [if_neg (by omega), if_neg hjk]

theorem vL_n (d : α) (h : Vec α) : (vL d h).length = h.n := by simp [vL]

theorem vL_at (d : α) (h : Vec α) (b : Nat) : (vL d h)[b]? = vAt d h b := by
  unfold vL vAt
  rw [List.getElem?_map]
  by_cases hb : b < h.n
  · rw [List.getElem?_range hb, show Nat.blt b h.n = true from Nat.blt_eq.mpr hb]; rfl
  · rw [List.getElem?_eq_none (by simp; omega), show Nat.blt b h.n = false from Bool.eq_false_iff.mpr (fun hh => hb (Nat.blt_eq.mp hh))]; rfl

theorem log2_lt (k : Nat) (hk : 1 ≤ k) : k < 2 ^ (Nat.log2 k + 1) := Nat.lt_log2_self

theorem vL_put (d : α) (h : Vec α) (b : Nat) (x : α) : vL d (vPut d h b x) = (vL d h).set b x := by
  apply List.ext_getElem?
  intro j
  rw [vL_at, List.getElem?_set, vL_n, vL_at]
  unfold vPut
  by_cases hb : b < h.n
  · rw [show Nat.blt b h.n = true from Nat.blt_eq.mpr hb, cond_true]
    unfold vAt
    simp only
    by_cases hj : j < h.n
    · rw [show Nat.blt j h.n = true from Nat.blt_eq.mpr hj, cond_true, cond_true, get_put d _ _ _ _ _ (by omega) (by omega) (log2_lt _ (by omega))]
      by_cases hbj : b = j
      · rw [if_pos (by omega), if_pos hbj, if_pos hb]
      · rw [if_neg (by omega), if_neg hbj]
    · rw [show Nat.blt j h.n = false from Bool.eq_false_iff.mpr (fun hh => hj (Nat.blt_eq.mp hh)), cond_false, cond_false, if_neg (by omega)]
  · rw [show Nat.blt b h.n = false from Bool.eq_false_iff.mpr (fun hh => hb (Nat.blt_eq.mp hh)), cond_false]
    by_cases hbj : b = j
    · subst hbj
      rw [if_pos rfl, if_neg hb]
      unfold vAt
      rw [show Nat.blt b h.n = false from Bool.eq_false_iff.mpr (fun hh => hb (Nat.blt_eq.mp hh)), cond_false]
    · rw [if_neg hbj]

theorem vL_push (d : α) (h : Vec α) (x : α) : vL d (vPush d h x) = vL d h ++ [x] := by
  apply List.ext_getElem?
  intro j
  rw [vL_at]
  unfold vAt vPush
  simp only
  by_cases hj : j < h.n
  · rw [show Nat.blt j (h.n + 1) = true from Nat.blt_eq.mpr (by omega), cond_true, get_put d _ _ _ _ _ (by omega) (by omega) (log2_lt _ (by omega)), if_neg (by omega), List.getElem?_append_left (by rw [vL_n]; exact hj), vL_at]
    unfold vAt
    rw [show Nat.blt j h.n = true from Nat.blt_eq.mpr hj, cond_true]
  · rw [List.getElem?_append_right (by rw [vL_n]; omega), vL_n]
    by_cases hjn : j = h.n
    · subst hjn
      rw [show Nat.blt h.n (h.n + 1) = true from Nat.blt_eq.mpr (by omega), cond_true, get_put d _ _ _ _ _ (by omega) (by omega) (log2_lt _ (by omega)), if_pos rfl, Nat.sub_self]
      rfl
    · rw [show Nat.blt j (h.n + 1) = false from Bool.eq_false_iff.mpr (fun hh => by have := Nat.blt_eq.mp hh; omega), cond_false, List.getElem?_eq_none (by simp; omega)]

/-- A slice's capacity: known, or at least its length (z: cells of an element). -/
inductive Cap where
  | kn (k : Nat)
  | un (z : Nat)
  deriving Repr

inductive AV where
  | lit (v : Value)
  | ptr (b off : Nat)
  | sl (b off len : Nat) (cap : Cap)
  | mp (b : Nat)
  | agg (l : List AV)
  | tup (l : List AV)
  | ifc (t : TypeId) (v : AV)
  | fn (f : Fn) (first caps : List AV)
  | ext (i : Nat)
  | rng (i : Nat) (lo hi : Option Int)
  | any

instance : Inhabited AV := ⟨.lit (.bool false)⟩

/-- Temporaries. -/
abbrev TM := Vec AV
def TM.at (h : TM) (b : Nat) : Option AV := vAt (.tup []) h b
def TM.set (h : TM) (b : Nat) (x : AV) : TM := vPut (.tup []) h b x
def TM.fill : TM → Nat → List AV → TM
  | m, _, [] => m
  | m, k, x :: r => TM.fill (m.set k x) (k + 1) r
/-- The values, and then so many that are not known yet. -/
def TM.ofL (l : List AV) (n : Nat) : TM := TM.fill ⟨.e, l.length + n⟩ 0 l

def TM.L (h : TM) : List AV := vL (.tup []) h
theorem TL_n (h : TM) : h.L.length = h.n := vL_n _ _
theorem TL_at (h : TM) (b : Nat) : h.L[b]? = h.at b := vL_at _ _ _
theorem TL_set (h : TM) (b : Nat) (x : AV) : (h.set b x).L = h.L.set b x := vL_put _ _ _ _
theorem Tn_set (h : TM) (b : Nat) (x : AV) : (h.set b x).n = h.n := by rw [← TL_n, TL_set, List.length_set, TL_n]

theorem fill_get : ∀ (l : List AV) (m : TM) (k j : Nat), k + l.length ≤ m.n → (TM.fill m k l).L[j]? = if k ≤ j ∧ j < k + l.length then l[j - k]? else m.L[j]?
  | [], m, k, j, _ => by rw [if_neg (by simp)]; rfl
  | x :: r, m, k, j, hk => by
    simp only [List.length_cons] at hk ⊢
    rw [TM.fill, fill_get r _ (k + 1) j (by rw [Tn_set]; omega), TL_set]
    by_cases h1 : k + 1 ≤ j ∧ j < k + 1 + r.length
    · rw [if_pos h1, if_pos (by omega), show j - k = (j - (k + 1)) + 1 by omega, List.getElem?_cons_succ]
    · rw [if_neg h1]
      by_cases h2 : j = k
      · subst h2
        rw [if_pos (by omega), List.getElem?_set_self (by rw [TL_n]; omega), Nat.sub_self]
        rfl
      · rw [if_neg (by omega), List.getElem?_set_ne (by omega)]

theorem empty_L (m : Nat) : TM.L ⟨.e, m⟩ = List.replicate m (AV.tup []) := by
  unfold TM.L vL
  apply List.ext_getElem?
  intro j
  rw [List.getElem?_map, List.getElem?_replicate]
  simp only
  by_cases hj : j < m
  · rw [if_pos hj, List.getElem?_range hj]; rfl
  · rw [if_neg hj, List.getElem?_eq_none (by simp; omega)]; rfl

theorem ofL_L (l : List AV) (n : Nat) : (TM.ofL l n).L = l ++ List.replicate n (.tup []) := by
  apply List.ext_getElem?
  intro j
  unfold TM.ofL
  rw [fill_get l _ 0 j (by simp), empty_L]
  by_cases h1 : j < l.length
  · rw [if_pos (by omega), Nat.sub_zero, List.getElem?_append_left h1]
  · rw [if_neg (by omega), List.getElem?_append_right (by omega), List.getElem?_replicate, List.getElem?_replicate]
    by_cases h2 : j < l.length + n
    · rw [if_pos h2, if_pos (by omega)]
    · rw [if_neg h2, if_neg (by omega)]

/-- Temporaries of which the values are these. -/
def tmOf (l : List AV) : TM := TM.ofL l 0
theorem tmOf_L (l : List AV) : (tmOf l).L = l := by rw [tmOf, ofL_L]; simp
theorem tmOf_at (l : List AV) (k : Nat) : (tmOf l).at k = l[k]? := by rw [← TL_at, tmOf_L]

structure AD where
  f : FuncId
  args : List AV

structure AE where
  key : Value
  val : AV
  born : Nat

structure ALoop where
  state : LoopState
  pending : Option Code
  fn : FuncId
  tmps : TM
  params : List Tmp
  assign : Code
  body : Code

inductive AB where
  | cells (l : List AV) (e : TypeId)
  | frz (l : List AV) (e : TypeId)
  | map (es : List AE) (clock : Nat)
  | loop (l : ALoop)
  | iter (m : Option Nat) (since : Nat) (seen : List Nat) (last : Nat)
  | defd
  | gone

abbrev AH := Vec AB
def AH.at (h : AH) (b : Nat) : Option AB := vAt .gone h b
def AH.put (h : AH) (b : Nat) (x : AB) : AH := vPut .gone h b x
def AH.push (h : AH) (x : AB) : AH := vPush .gone h x
def AH.nil : AH := ⟨.e, 0⟩

/-- A value without addresses and without parts. -/
def scal : Value → Bool
  | .bool _ | .int _ _ | .string _ | .pointer none | .slice none 0 0 | .map none | .nilFunc | .nilIface => true
  | _ => false

def ofScal (v : Value) : Option AV := if scal v then some (.lit v) else none

def ofScals : List Value → Option (List AV)
  | [] => some []
  | v :: r => match ofScal v, ofScals r with
    | some x, some y => some (x :: y)
    | _, _ => none

def ofVal1 : Value → Option AV
  | .agg cs => (ofScals cs.toList).map .agg
  | v => ofScal v

def ofVal1s : List Value → Option (List AV)
  | [] => some []
  | v :: r => match ofVal1 v, ofVal1s r with
    | some x, some y => some (x :: y)
    | _, _ => none

def ofVal : Value → Option AV
  | .tuple vs => (ofVal1s vs.toList).map .tup
  | .iface t v => (ofVal1 v).map (.ifc t)
  | v => ofVal1 v

def toScals : List AV → Option (List Value)
  | [] => some []
  | .lit v :: r => (toScals r).map (v :: ·)
  | _ :: _ => none

def toVal : AV → Option Value
  | .lit v => some v
  | .agg l => (toScals l).map fun l => .agg l.toArray
  | .ifc t (.lit v) => some (.iface t v)
  | .ifc t (.agg l) => (toScals l).map fun l => .iface t (.agg l.toArray)
  | _ => none

def AV.cells : AV → List AV
  | .agg l => l
  | v => [v]

inductive PR (α : Type) where
  | ok (a : α)
  | pan (v : Value)

def pur (P : Program) {α : Type} : Sem α → Option (PR α)
  | .pure a => some (.ok a)
  | .program k => pur P (k P)
  | .mark _ k => pur P k
  | .halt (.panic v) => some (.pan v)
  | _ => none

/-- What an operation comes to. -/
inductive AN where
  | val (v : AV)
  | enter (f : FuncId) (args : List AV)
  | round (l : Nat) (args : List AV)
  | defer (f : FuncId) (args : List AV)
  | recover
  | pan (v : AV)

def aundef : AV := .tup []

def evalA (tmps : TM) : Operand → Option AV
  | .tmp t => some ((tmps.at t).getD aundef)
  | .const v => ofVal v
  | .func f => some (.fn (.func f) [] [])
  | .global _ => none

def evals (tmps : TM) : List Operand → Option (List AV)
  | [] => some []
  | x :: r => match evalA tmps x, evals tmps r with
    | some v, some vs => some (v :: vs)
    | _, _ => none

/-- What is known of a type. -/
structure TI where
  desc : TypeDesc
  size : Nat
  bytes : Nat
  zero : AV
  /-- May a value be a map's key, and are two the same? -/
  ck : Value → Bool
  eq : Value → Value → Option Bool

abbrev TT := TypeId → Option TI

def und (T : TT) (t : TypeId) : Option TypeDesc := (T t).map (·.desc)

def isAggD : TypeDesc → Bool
  | .struct _ | .array _ _ => true
  | _ => false

def tiOf (P : Program) (t : TypeId) : TI :=
  { desc := (P.underlying t).getD .invalid
    size := ((P.info? t).map (·.size)).getD 0
    bytes := ((P.info? t).map (·.bytes)).getD 0
    zero := (((P.info? t).bind (·.zero)).bind ofVal1).getD (.tup [])
    ck := fun v => match pur P (Instr.checkKey true 10000 t v), pur P (Instr.checkKey false 10000 t v) with
      | some (.ok _), some (.ok _) => true
      | _, _ => false
    eq := fun a b => match pur P (Op.equal t a b) with
      | some (.ok r) => some r
      | _ => none }

/-- May a type stand in the table? -/
def okType (P : Program) (t : TypeId) : Bool := (P.underlying t).isSome && (((P.info? t).bind (·.zero)).bind ofVal1).isSome

/-- Numbers, to be found fast. -/
inductive NT where
  | leaf
  | node (l : NT) (k : Nat) (r : NT)

def NT.has (t : Nat) : NT → Bool
  | .leaf => false
  | .node l k r => bif Nat.beq t k then true else bif Nat.blt t k then l.has t else r.has t

def NT.all (p : Nat → Bool) : NT → Bool
  | .leaf => true
  | .node l k r => p k && l.all p && r.all p

def tabOf (P : Program) (N : NT) : TT := fun t => bif N.has t then some (tiOf P t) else none

def isAggT (T : TT) (t : TypeId) : Option Bool := (T t).map fun i => isAggD i.desc

def sizeT (T : TT) (t : TypeId) : Option Nat := (T t).map (·.size)

def zeroT (T : TT) (t : TypeId) : Option AV := (T t).map (·.zero)

/-- A row that may be written. -/
def getB (h : AH) (b : Nat) : Option (List AV × TypeId) := match (h.at b) with
  | some (.cells l e) => some (l, e)
  | _ => none

/-- A row that may be read. -/
def getR (h : AH) (b : Nat) : Option (List AV) := match (h.at b) with
  | some (.cells l _) | some (.frz l _) => some l
  | _ => none

/-- Cells of a row, n from i on. -/
def cut (l : List AV) (i n : Nat) : Option (List AV) := if i + n ≤ l.length then some ((l.drop i).take n) else none

def put (l : List AV) (i : Nat) (vs : List AV) : Option (List AV) := if i + vs.length ≤ l.length then some (l.take i ++ vs ++ l.drop (i + vs.length)) else none

/-- Is it the value of one cell? -/
def AV.one : AV → Bool
  | .agg _ | .tup _ => false
  | _ => true

def loadA (T : TT) (h : AH) (t : TypeId) (b off : Nat) : Option AV :=
  match getR h b, isAggT T t, sizeT T t with
  | some l, some true, some n => (cut l off n).map .agg
  | some l, some false, some _ => l[off]?
  | _, _, _ => none

def storeA (T : TT) (h : AH) (t : TypeId) (b off : Nat) (v : AV) : Option AH :=
  match getB h b, sizeT T t with
  | some (l, e), some n => if v.cells.length = n && v.cells.all AV.one then (put l off v.cells).map fun l' => h.put b (.cells l' e) else none
  | _, _ => none

def intA : AV → Option Int
  | .lit (.int _ n) => some n
  | _ => none

def natA (v : AV) : Option Nat := match intA v with
  | some n => if 0 ≤ n then some n.toNat else none
  | none => none

def fillA (place : Nat → Option (Nat × Nat)) : List AV → List (Nat × AV) → Option (List AV)
  | cells, [] => some cells
  | cells, (i, v) :: rest =>
    match place i with
    | some (off, size) => if v.cells.length = size then match put cells off v.cells with
      | some c => fillA place c rest
      | none => none else none
    | none => none

def evalParts (tmps : TM) : List (Nat × Operand) → Option (List (Nat × AV))
  | [] => some []
  | (i, x) :: r => match evalA tmps x, evalParts tmps r with
    | some v, some vs => some ((i, v) :: vs)
    | _, _ => none

def places (T : TT) : List Field → Option (List (Nat × Nat))
  | [] => some []
  | f :: r => match sizeT T f.type, places T r with
    | some n, some l => some ((f.offset, n) :: l)
    | _, _ => none

def buildA (T : TT) (t : TypeId) (parts : List (Nat × AV)) : Option AV :=
  match zeroT T t, und T t with
  | some (.agg z), some (.struct fs) => match places T fs.toList with
    | some pl => (fillA (fun i => pl[i]?) z parts).map .agg
    | none => none
  | some (.agg z), some (.array _ e) => match sizeT T e with
    | some n => (fillA (fun i => some (i * n, n)) z parts).map .agg
    | none => none
  | _, _ => none

def rep (z : List AV) : Nat → List AV
  | 0 => []
  | n + 1 => z ++ rep z n

def capGe (c : Cap) (len n : Nat) : Option Bool := match c with
  | .kn k => some (n ≤ k)
  | .un _ => if n ≤ len then some true else none

/-- The low and the high bound, and the new capacity, of a slice expression. -/
def boundsA (len : Nat) (cap : Cap) (lo hi mx : Option Nat) : Option (Nat × Nat × Cap) :=
  let l := lo.getD 0
  match mx with
  | some m => match hi with
    | some h => if l ≤ h && h ≤ m && capGe cap len m == some true then some (l, h, .kn (m - l)) else none
    | none => none
  | none =>
    let h := hi.getD len
    if l ≤ h && capGe cap len h == some true then some (l, h, match cap with | .kn k => .kn (k - l) | .un z => .un z) else none

def optNat (tmps : TM) : Option Operand → Option (Option Nat)
  | none => some none
  | some x => match evalA tmps x with
    | some v => (natA v).map some
    | none => none

/-- Bytes of cells. -/
def bytesA : List AV → Option (List UInt8)
  | [] => some []
  | .lit (.int .u8 (.ofNat k)) :: r => bif Nat.blt k 256 then (bytesA r).map (UInt8.ofNat k :: ·) else none
  | _ :: _ => none

def byteCells (s : ByteArray) : List AV := s.data.toList.map fun b => .lit (.int .u8 b.toNat)

/-- What is appended or copied: its elements' cells. -/
def srcA (h : AH) (z : Nat) : AV → Option (List AV)
  | .lit (.slice none 0 0) => some []
  | .lit (.string s) => bif Nat.beq z 1 then some (byteCells s) else none
  | .sl b off len _ => match getR h b with
    | some l => cut l off (len * z)
    | none => none
  | _ => none

def lenA : AV → Option Nat
  | .lit (.slice none 0 0) => some 0
  | .lit (.string s) => some s.size
  | .sl _ _ len _ => some len
  | _ => none

def isSrcD (z : Nat) : TypeDesc → Bool
  | .slice _ => true
  | .string => Nat.beq z 1
  | _ => false

/-- The appended cells laid: s is the slice, 'new' the cells, z their number in an element, m the number of elements. -/
def appendB (h : AH) (e : TypeId) (z m : Nat) (new : List AV) (s : AV) : Option (AV × AH) := match s with
  | .lit (.slice none 0 0) => bif Nat.beq m 0 then some (s, h) else some (.sl h.n 0 m (.un z), h.push (.cells new e))
  | .sl b off len cap => bif Nat.beq m 0 then some (s, h) else match cap with
    | .un z' => match getB h b with
      | some (l, e') => match cut l off (len * z) with
        | some old => bif Nat.beq z z' && Nat.beq e e' then some (.sl h.n 0 (len + m) (.un z), (h.put b .gone).push (.cells (old ++ new) e)) else none
        | none => none
      | none => none
    | .kn k => bif Nat.ble (len + m) k then match getB h b with
        | some (l, e') => (put l (off + len * z) new).map fun l' => (.sl b off (len + m) cap, h.put b (.cells l' e'))
        | none => none
      else match getR h b with
        | some l => match cut l off (len * z) with
          | some old => some (.sl h.n 0 (len + m) (.un z), h.push (.cells (old ++ new) e))
          | none => none
        | none => none
  | _ => none

def appendA (T : TT) (h : AH) (t tx : TypeId) (s x : AV) : Option (AV × AH) := match und T t, und T tx with
  | some (.slice e), some dx => match T e, lenA x, lenA s with
    | some i, some m, some n => bif isSrcD i.size dx && Nat.blt 0 i.size && Nat.ble i.size 200 && Nat.beq i.zero.cells.length i.size && Nat.ble (n + m) 4611686018427387904 && Nat.ble ((n + m) * i.bytes) 140737488355328 then match srcA h i.size x with
      | some new => bif Nat.beq new.length (m * i.size) && new.all AV.one then appendB h e i.size m new s else none
      | none => none else none
    | _, _, _ => none
  | _, _ => none

/-- Is a slice empty, with no room? -/
def isNul (len : Nat) : Cap → Bool
  | .kn k => Nat.beq len 0 && Nat.beq k 0
  | .un _ => false

def copyB (h : AH) (z k : Nat) (cs : List AV) : AV → Option (AV × AH)
  | .sl b off len cap => bif isNul len cap then some (.lit (.int .i64 0), h) else match getB h b with
    | some (l, e') => (put l off (cs.take (k * z))).map fun l' => (.lit (.int .i64 (k : Nat)), h.put b (.cells l' e'))
    | none => none
  | .lit (.slice none 0 0) => some (.lit (.int .i64 0), h)
  | _ => none

def copyA (T : TT) (h : AH) (t : TypeId) (d x : AV) : Option (AV × AH) := match und T t with
  | some (.slice e) => match sizeT T e, lenA d, lenA x with
    | some z, some n, some m => match srcA h z x with
      | some cs => bif Nat.beq cs.length (m * z) && cs.all AV.one then copyB h z (Nat.min m n) cs d else none
      | none => none
    | _, _, _ => none
  | _ => none

def keyKind : TypeDesc → Bool
  | .int _ | .string => true
  | _ => false

def findA (kind : TypeDesc) (k : Value) : List AE → Nat → Option (Option (Nat × AV))
  | [], _ => some none
  | e :: es, i => match Instr.sameNow kind k e.key with
    | some true => some (some (i, e.val))
    | some false => findA kind k es (i + 1)
    | none => none

def findE (eq : Value → Value → Option Bool) (k : Value) : List AE → Nat → Option (Option (Nat × AV))
  | [], _ => some none
  | e :: es, i => match eq k e.key with
    | some true => bif Instr.sameBits 10000 e.key k then some (some (i, e.val)) else none
    | some false => findE eq k es (i + 1)
    | none => none

def isStructD : TypeDesc → Bool
  | .struct _ => true
  | _ => false

/-- A key: a plain value, or some of them. -/
def keyV : Value → Bool
  | .agg cs => cs.toList.all scal
  | v => scal v

def keyOf : AV → Option Value
  | .lit v => some v
  | .agg l => (toScals l).map fun l => .agg l.toArray
  | _ => none

def avKey : Value → AV
  | .agg cs => .agg (cs.toList.map .lit)
  | v => .lit v

/-- Where a key stands in a map. -/
def findT (T : TT) (t : TypeId) (k : Value) (es : List AE) : Option (Option (Nat × AV)) := match und T t with
  | some (.map kt _) => match T kt with
    | some i => bif keyKind i.desc then findA i.desc k es 0 else bif isStructD i.desc && i.ck k then findE i.eq k es 0 else none
    | none => none
  | _ => none

def elemT (T : TT) (t : TypeId) : Option TypeId := match und T t with
  | some (.map _ e) => some e
  | _ => none

def entsA (h : AH) : AV → Option (List AE)
  | .lit (.map none) => some []
  | .mp b => match (h.at b) with
    | some (.map es _) => some es
    | _ => none
  | _ => none

def lookupA (T : TT) (h : AH) (t : TypeId) (m k : AV) (ok : Bool) : Option AV :=
  match keyOf k, entsA h m, elemT T t with
  | some key, some es, some e => match findT T t key es, zeroT T e with
      | some (some (_, v)), _ => some (bif ok then .tup [v, .lit (.bool true)] else v)
      | some none, some z => some (bif ok then .tup [z, .lit (.bool false)] else z)
      | _, _ => none
  | _, _, _ => none

def updateA (T : TT) (h : AH) (t : TypeId) (m k v : AV) : Option AH :=
  match m, keyOf k with
  | .mp b, some key => match (h.at b) with
    | some (.map es clock) => match findT T t key es with
      | some (some (i, _)) => some (h.put b (.map (es.modify i fun e => { e with key := key, val := v }) clock))
      | some none => some (h.put b (.map (es ++ [{ key, val := v, born := clock }]) (clock + 1)))
      | none => none
    | _ => none
  | _, _ => none

def deleteA (T : TT) (h : AH) (t : TypeId) (m k : AV) : Option AH :=
  match m, keyOf k with
  | .lit (.map none), some key => match findT T t key [] with
    | some _ => some h
    | none => none
  | .mp b, some key => match (h.at b) with
    | some (.map es clock) => match findT T t key es with
      | some (some (i, _)) => some (h.put b (.map (es.eraseIdx i) clock))
      | some none => some h
      | none => none
    | _ => none
  | _, _ => none

/-- A method of a type with the method's own function. -/
def methodA (P : Program) (t : TypeId) (name : String) : Option FuncId := match P.info? t with
  | some i => match i.methods.find? (·.name == name) with
    | some m => bif m.path.isEmpty then (match m.func, P.underlying t with
        | some (f, true), some (.pointer _) => some f
        | some (_, false), some (.pointer _) => none
        | some (f, false), some _ => some f
        | _, _ => none) else none
    | none => none
  | none => none

/-- A function's value, or a method's, called. -/
def callA (P : Program) (f : AV) (args : List AV) : Option AN :=
  match f with
  | .fn (.func g) first caps => some (.enter g (first ++ args ++ caps))
  | .fn (.yield l) [] [] => some (.round l args)
  | .fn (.method name) [.ifc t v] [] => (methodA P t name).map fun g => .enter g (v :: args)
  | _ => none

/-- Are two values, not both plain, the same? -/
def sameA (T : TT) (d : TypeDesc) (x y : AV) : Option Bool := match d, x, y with
  | .pointer _, .ptr _ _, .lit (.pointer none) | .pointer _, .lit (.pointer none), .ptr _ _ => some false
  | .slice _, .sl .., .lit (.slice none 0 0) | .slice _, .lit (.slice none 0 0), .sl .. => some false
  | .map _ _, .mp _, .lit (.map none) | .map _ _, .lit (.map none), .mp _ => some false
  | .func .., .fn .., .lit .nilFunc | .func .., .lit .nilFunc, .fn .. => some false
  | .interface _, .ifc .., .lit .nilIface | .interface _, .lit .nilIface, .ifc .. => some false
  | .pointer e, .ptr b i, .ptr c j => match sizeT T e with
    | some (_ + 1) => bif Nat.beq b c then some (Nat.beq i j) else none
    | _ => none
  | _, _, _ => none

def litAll (tmps : TM) : List Operand → Bool
  | [] => true
  | x :: r => match evalA tmps x with
    | some v => (toVal v).isSome && litAll tmps r
    | none => false

def litEnv (tmps : TM) (x : Operand) : Value := match evalA tmps x with
  | some v => (toVal v).getD undef
  | none => undef

def ofPR : Option (PR Next) → Option AN
  | some (.ok (.value v)) => (ofVal v).map .val
  | some (.pan v) => (ofVal v).map .pan
  | _ => none

def notSelect : Op → Bool
  | .select .. => false
  | _ => true

/-- An operation whose operands are all plain, by the model's own text. -/
def litOp (P : Program) (o : Oper) (tmps : TM) : Option AN :=
  if notSelect o.op && litAll tmps o.op.operands.toList then ofPR (pur P (execOp (litEnv tmps) o)) else none

abbrev AR := Option (AN × AH)

def val (h : AH) (x : Option AV) : AR := x.map fun x => (.val x, h)

def orLit (P : Program) (o : Oper) (tmps : TM) (h : AH) (r : Unit → AR) : AR := match litOp P o tmps with
  | some n => some (n, h)
  | none => r ()

def aPick (tmps : TM) (h : AH) (c a b : Operand) : AR := match evalA tmps c with
  | some (.lit (.bool t)) => val h (bif t then evalA tmps a else evalA tmps b)
  | _ => none

def aAlloc (T : TT) (h : AH) (t : TypeId) : AR := (zeroT T t).map fun z => (.val (.ptr h.n 0), h.push (.cells z.cells t))

def aBox (tmps : TM) (h : AH) (t : TypeId) (x : Operand) : AR := match evalA tmps x with
  | some z => if z.cells.all AV.one then some (.val (.ptr h.n 0), h.push (.cells z.cells t)) else none
  | none => none

def aBuild (T : TT) (tmps : TM) (h : AH) (t : TypeId) (ps : Array (Nat × Operand)) : AR := match evalParts tmps ps.toList with
  | some ps => val h (buildA T t ps)
  | none => none

def aBuildSlice (T : TT) (tmps : TM) (h : AH) (t : TypeId) (n : Nat) (ps : Array (Nat × Operand)) : AR := match und T t, evalParts tmps ps.toList with
  | some (.slice e), some ps => match T e with
    | some i => if i.zero.cells.length = i.size && n ≤ 65536 && n * i.size ≤ 65536 then (fillA (fun k => some (k * i.size, i.size)) (rep i.zero.cells n) ps).map fun l => (.val (.sl h.n 0 n (.kn n)), h.push (.cells l e)) else none
    | none => none
  | _, _ => none

def aLoad (T : TT) (tmps : TM) (h : AH) (t : TypeId) (a : Operand) : AR := match evalA tmps a with
  | some (.ptr b off) => val h (loadA T h t b off)
  | _ => none

def aStore (T : TT) (tmps : TM) (h : AH) (t : TypeId) (a x : Operand) : AR := match evalA tmps a, evalA tmps x with
  | some (.ptr b off), some x => (storeA T h t b off x).map fun h' => (.val aundef, h')
  | _, _ => none

def aNilCheck (P : Program) (o : Oper) (tmps : TM) (h : AH) (x : Operand) : AR := match evalA tmps x with
  | some (.ptr b off) => some (.val (.ptr b off), h)
  | some (.fn (.func g) a b) => some (.val (.fn (.func g) a b), h)
  | some (.ifc t x) => some (.val (.ifc t x), h)
  | _ => orLit P o tmps h fun _ => none

def aSame (T : TT) (tmps : TM) (h : AH) (op : BinOp) (t : TypeId) (x y : Operand) : AR := match und T t, evalA tmps x, evalA tmps y with
  | some d, some a, some b => match sameA T d a b, op with
    | some r, .eql => some (.val (.lit (.bool r)), h)
    | some r, .neq => some (.val (.lit (.bool !r)), h)
    | _, _ => none
  | _, _, _ => none

def bytesAt (h : AH) (b off len : Nat) : Option (List UInt8) := match getR h b with
  | some l => match cut l off len with
    | some cs => bytesA cs
    | none => none
  | none => none

def aConv1 (T : TT) (h : AH) (src dst : TypeId) (x : AV) : AR := match und T src, und T dst, x with
  | some (.slice e), some .string, .sl b off len _ => match und T e with
    | some (.int .u8) => val h ((bytesAt h b off len).map fun bs => .lit (.string ⟨bs.toArray⟩))
    | _ => none
  | some (.slice _), some (.slice e), .sl b off len cap => if src == dst then match und T e, getB h b with
      | some (.int .u8), some (l, e') => bif isNul len cap then none else some (.val (.sl b off len cap), h.put b (.frz l e'))
      | _, _ => none else none
  | some .string, some (.slice e), .lit (.string s) => match und T e with
    | some (.int .u8) => bif Nat.ble s.size 16777216 then some (.val (.sl h.n 0 s.size (.un 1)), h.push (.frz (byteCells s) e)) else none
    | _ => none
  | _, _, _ => none

def aConvert (P : Program) (T : TT) (o : Oper) (tmps : TM) (h : AH) (src dst : TypeId) (x : Operand) : AR := match evalA tmps x with
  | some (.lit (.int k n)) => match und T src, und T dst with
    | some _, some (.int k') => some (.val (.lit (.int k' (k'.wrap n))), h)
    | _, _ => orLit P o tmps h fun _ => none
  | some v => orLit P o tmps h fun _ => aConv1 T h src dst v
  | none => none

def aMakeInterface (T : TT) (tmps : TM) (h : AH) (t : TypeId) (x : Operand) : AR := match und T t, evalA tmps x with
  | some (.interface _), _ => none
  | some _, some x => some (.val (.ifc t x), h)
  | _, _ => none

def notYield : Fn → Bool
  | .yield _ => false
  | _ => true

def aMakeFunc (tmps : TM) (h : AH) (f : Fn) (first caps : Array Operand) : AR := match evals tmps first.toList, evals tmps caps.toList with
  | some a, some b => bif notYield f then some (.val (.fn f a b), h) else none
  | _, _ => none

def aMakeSlice (T : TT) (tmps : TM) (h : AH) (t : TypeId) (l c : Operand) : AR := match und T t, (evalA tmps l).bind natA, (evalA tmps c).bind natA with
  | some (.slice e), some n, some m => match T e with
    | some i => if n ≤ m && m ≤ 65536 && i.bytes * m ≤ 281474976710656 && i.zero.cells.length = i.size then some (.val (.sl h.n 0 n (.kn m)), h.push (.cells (rep i.zero.cells m) e)) else none
    | none => none
  | _, _, _ => none

def capFits (z : Nat) : Cap → Bool
  | .kn _ => true
  | .un z' => Nat.beq z z'

def aSlice1 (T : TT) (h : AH) (t : TypeId) (x : AV) (lo hi mx : Option Nat) : AR := match und T t, x with
  | some (.slice e), .sl b off len cap => match sizeT T e, boundsA len cap lo hi mx with
    | some z, some (l, r, c) => bif capFits z c then some (.val (.sl b (off + l * z) (r - l) c), h) else none
    | _, _ => none
  | some (.array n e), .ptr b off => match sizeT T e, boundsA n (.kn n) lo hi mx with
    | some z, some (l, r, c) => bif Nat.ble n 16777216 then some (.val (.sl b (off + l * z) (r - l) c), h) else none
    | _, _ => none
  | _, _ => none

def aSlice (P : Program) (T : TT) (o : Oper) (tmps : TM) (h : AH) (t : TypeId) (x : Operand) (lo hi mx : Option Operand) : AR :=
  orLit P o tmps h fun _ => match evalA tmps x, optNat tmps lo, optNat tmps hi, optNat tmps mx with
    | some x, some lo, some hi, some mx => aSlice1 T h t x lo hi mx
    | _, _, _, _ => none

def aFieldAddr (T : TT) (tmps : TM) (h : AH) (t : TypeId) (x : Operand) (i : Nat) : AR := match und T t, evalA tmps x with
  | some (.struct fs), some (.ptr b off) => match fs[i]? with
    | some f => match sizeT T f.type with
      | some (_ + 1) => some (.val (.ptr b (off + f.offset)), h)
      | _ => none
    | none => none
  | _, _ => none

def partA (T : TT) (t : TypeId) (l : List AV) (off : Nat) : Option AV := match T t with
  | some i => bif isAggD i.desc then (cut l off i.size).map .agg else l[off]?
  | none => none

def aField (T : TT) (tmps : TM) (h : AH) (t : TypeId) (x : Operand) (i : Nat) : AR := match und T t, evalA tmps x with
  | some (.struct fs), some (.agg l) => match fs[i]? with
    | some f => val h (partA T f.type l f.offset)
    | none => none
  | _, _ => none

def aIndexAddr (T : TT) (tmps : TM) (h : AH) (t : TypeId) (x ix : Operand) : AR := match und T t, evalA tmps x, (evalA tmps ix).bind natA with
  | some (.slice e), some (.sl b off len _), some i => match sizeT T e with
    | some z => if i < len then some (.val (.ptr b (off + i * z)), h) else none
    | none => none
  | some (.array n e), some (.ptr b off), some i => match sizeT T e with
    | some z => if i < n then some (.val (.ptr b (off + i * z)), h) else none
    | none => none
  | _, _, _ => none

def aIndex (P : Program) (T : TT) (o : Oper) (tmps : TM) (h : AH) (t : TypeId) (x ix : Operand) : AR :=
  orLit P o tmps h fun _ => match und T t, evalA tmps x, (evalA tmps ix).bind natA with
    | some (.array n e), some (.agg l), some i => match sizeT T e with
      | some z => if i < n then val h (partA T e l (i * z)) else none
      | none => none
    | _, _, _ => none

def aLookup (T : TT) (tmps : TM) (h : AH) (t : TypeId) (m k : Operand) (ok : Bool) : AR := match evalA tmps m, evalA tmps k with
  | some m, some k => val h (lookupA T h t m k ok)
  | _, _ => none

def aUpdate (T : TT) (tmps : TM) (h : AH) (t : TypeId) (m k x : Operand) : AR := match evalA tmps m, evalA tmps k, evalA tmps x with
  | some m, some k, some x => (updateA T h t m k x).map fun h' => (.val aundef, h')
  | _, _, _ => none

def aRange (T : TT) (tmps : TM) (h : AH) (t : TypeId) (x : Operand) : AR := match und T t, evalA tmps x with
  | some (.map _ _), some (.lit (.map none)) => some (.val (.ptr h.n 0), h.push (.iter none 0 [] 0))
  | some (.map _ _), some (.mp b) => match h.at b with
    | some (.map _ clock) => some (.val (.ptr h.n 0), h.push (.iter (some b) clock [] clock))
    | _ => none
  | _, _ => none

/-- A map's iterator goes on, where there is one way alone: no entry is left, or one that was there from the beginning. -/
def aNext (tmps : TM) (h : AH) (x : Operand) (isS : Bool) : AR := match evalA tmps x, isS with
  | some (.ptr b 0), false => match h.at b with
    | some (.iter none _ _ _) => some (.val (.tup [.lit (.bool false)]), h)
    | some (.iter (some m) since seen last) => match h.at m with
      | some (.map es clock) => bif !seen.isEmpty && !es.isEmpty && es.all (fun e => decide (e.born ≥ last)) then none else match es.filter (fun e => !seen.contains e.born) with
        | [] => some (.val (.tup [.lit (.bool false)]), h)
        | [e] => bif Nat.blt e.born since then some (.val (.tup [.lit (.bool true), avKey e.key, e.val]), h.put b (.iter (some m) since (seen ++ [e.born]) clock)) else none
        | _ => none
      | _ => none
    | _ => none
  | _, _ => none

/-- The entry of a map's iterator. -/
def aEntry (tmps : TM) (h : AH) (x : Operand) : AR := match evalA tmps x with
  | some (.ptr b 0) => match h.at b with
    | some (.iter (some m) _ seen stepped) => match h.at m, seen.getLast? with
      | some (.map es clock), some stamp => bif Nat.beq clock stepped then match es.find? (fun e => Nat.beq e.born stamp) with
        | some e => some (.val (.tup [avKey e.key, e.val]), h)
        | none => none else none
      | _, _ => none
    | _ => none
  | _ => none

def aExtract (tmps : TM) (h : AH) (x : Operand) (i : Nat) : AR := match evalA tmps x with
  | some (.tup l) => val h l[i]?
  | _ => none

def okPair (ok : Bool) (v : AV) (b : Bool) : AV := bif ok then .tup [v, .lit (.bool b)] else v

def aAssert (P : Program) (T : TT) (tmps : TM) (h : AH) (x : Operand) (t : TypeId) (ok : Bool) : AR := match evalA tmps x, T t with
  | some (.ifc d y), some i => match i.desc with
    | .interface want => match P.info? d with
      | some j => if (Instr.missingMethod want j.methods).isNone then some (.val (okPair ok (.ifc d y) true), h) else none
      | none => none
    | _ => bif Nat.beq d t then some (.val (okPair ok y true), h) else bif ok then some (.val (.tup [i.zero, .lit (.bool false)]), h) else none
  | some (.lit .nilIface), some i => bif ok then some (.val (.tup [i.zero, .lit (.bool false)]), h) else none
  | _, _ => none

def aPanic (tmps : TM) (h : AH) (x : Operand) : AR := match evalA tmps x with
  | some (.ifc t x) => some (.pan (.ifc t x), h)
  | _ => none

def aBuiltin (P : Program) (T : TT) (o : Oper) (tmps : TM) (h : AH) (b : Builtin) (c : Call) : AR := match b, evals tmps c.args.toList, c.argTypes.toList with
  | .append, some [s, x], [t, tx] => (appendA T h t tx s x).map fun r => (.val r.1, r.2)
  | .copy, some [s, x], t :: _ => (copyA T h t s x).map fun r => (.val r.1, r.2)
  | .delete, some [m, k], t :: _ => (deleteA T h t m k).map fun h' => (.val (.tup []), h')
  | .len, some [.sl _ _ n _], t :: _ => match und T t with
    | some (.slice _) => some (.val (.lit (.int .i64 n)), h)
    | _ => none
  | .len, some [.mp b], t :: _ => match und T t, (h.at b) with
    | some (.map _ _), some (.map es _) => some (.val (.lit (.int .i64 es.length)), h)
    | _, _ => none
  | .recover, _, _ => some (.recover, h)
  | _, _, _ => orLit P o tmps h fun _ => none

def aCall (P : Program) (T : TT) (o : Oper) (tmps : TM) (h : AH) (c : Call) : AR := match c.callee with
  | .builtin b => aBuiltin P T o tmps h b c
  | .value f => match evalA tmps f, evals tmps c.args.toList with
    | some f, some args => (callA P f args).map (·, h)
    | _, _ => none
  | .invoke r name => match evalA tmps r, evals tmps c.args.toList with
    | some r, some args => (callA P (.fn (.method name) [r] []) args).map (·, h)
    | _, _ => none

def aDefer (P : Program) (tmps : TM) (h : AH) (c : Call) : AR := match c.callee with
  | .value f => match evalA tmps f, evals tmps c.args.toList with
    | some f, some args => match callA P f args with
      | some (.enter g a) => some (.defer g a, h)
      | _ => none
    | _, _ => none
  | _ => none

def ofPV (h : AH) : Option (PR Value) → AR
  | some (.ok v) => (ofScal v).map fun a => (.val a, h)
  | some (.pan v) => (ofVal v).map fun a => (.pan a, h)
  | none => none

def cmpB (op : BinOp) (below above upto from' : Bool) : Option Bool := match op with
  | .lss => bif below then some true else bif from' then some false else none
  | .geq => bif below then some false else bif from' then some true else none
  | .leq => bif upto then some true else bif above then some false else none
  | .gtr => bif upto then some false else bif above then some true else none
  | .eql => bif below || above then some false else none
  | .neq => bif below || above then some true else none
  | _ => none

def ltO (x : Option Int) (c : Int) : Bool := match x with
  | some b => decide (b < c)
  | none => false
def gtO (x : Option Int) (c : Int) : Bool := match x with
  | some b => decide (c < b)
  | none => false

/-- A number of which bounds are known, compared with a known one. -/
def cmpR (op : BinOp) (lo hi : Option Int) (c : Int) : Option Bool := cmpB op (ltO hi c) (gtO lo c) (ltO hi (c + 1)) (gtO lo (c - 1))

def aBin (P : Program) (T : TT) (o : Oper) (tmps : TM) (h : AH) (op : BinOp) (t : TypeId) (x y : Operand) : AR := match evalA tmps x, evalA tmps y with
  | some (.lit .nilIface), _ => orLit P o tmps h fun _ => aSame T tmps h op t x y
  | some (.lit a), some (.lit b) => ofPV h (pur P (binOp op t a b))
  | some (.rng _ lo hi), some (.lit (.int .i64 c)) => val h ((cmpR op lo hi c).map fun r => .lit (.bool r))
  | _, _ => orLit P o tmps h fun _ => aSame T tmps h op t x y

def aUn (P : Program) (tmps : TM) (h : AH) (op : UnOp) (x : Operand) : AR := match evalA tmps x with
  | some (.lit a) => ofPV h (pur P (Op.unary op a))
  | _ => none

def aop (P : Program) (T : TT) (o : Oper) (tmps : TM) (h : AH) : AR :=
  match o.op with
  | .move x | .assign x => val h (evalA tmps x)
  | .pick c a b => aPick tmps h c a b
  | .alloc t => aAlloc T h t
  | .box t x => aBox tmps h t x
  | .build t ps => aBuild T tmps h t ps
  | .buildSlice t n ps => aBuildSlice T tmps h t n ps
  | .load t a => aLoad T tmps h t a
  | .store t a x => aStore T tmps h t a x
  | .nilCheck x => aNilCheck P o tmps h x
  | .binOp op t x y _ => aBin P T o tmps h op t x y
  | .convert src dst x => aConvert P T o tmps h src dst x
  | .makeInterface t x => aMakeInterface T tmps h t x
  | .makeFunc f first caps => aMakeFunc tmps h f first caps
  | .makeMap _ none => some (.val (.mp h.n), h.push (.map [] 0))
  | .makeSlice t l c => aMakeSlice T tmps h t l c
  | .slice t x lo hi mx => aSlice P T o tmps h t x lo hi mx
  | .fieldAddr t x i => aFieldAddr T tmps h t x i
  | .field t x i => aField T tmps h t x i
  | .indexAddr t x ix => aIndexAddr T tmps h t x ix
  | .index t x ix => aIndex P T o tmps h t x ix
  | .lookup t m k ok => aLookup T tmps h t m k ok
  | .mapUpdate t m k x | .insert t m k x => aUpdate T tmps h t m k x
  | .extract x i => aExtract tmps h x i
  | .range t x => aRange T tmps h t x
  | .next x s => aNext tmps h x s
  | .entry x => aEntry tmps h x
  | .typeAssert x _ t ok => aAssert P T tmps h x t ok
  | .panic x => aPanic tmps h x
  | .call c => aCall P T o tmps h c
  | .defer c => aDefer P tmps h c
  | .unOp op _ x => aUn P tmps h op x
  | _ => none

end Go.Proofs.Ytkgbeihcepociaa.Ex
end
