/- Regions in which some operations may come up in several orders, each of which is walked. -/
import Derived.Test.YtanmfldgillodaaGreatRegionJ
set_option linter.unusedSimpArgs false
set_option linter.unusedVariables false
namespace Go.Proofs.YtanmfldgillodaaGreat
open Go.RowKit

section
variable {P : Program} {ops : Array Oper} {md : Region.Mode} {Q : Exit → Act → World → Prop}

theorem wpOp_of_list {i : Nat} {o : Oper} {K : Act → World → Prop} {a : Act} {w : World} (ho : ops[i]? = some o) (h : wpList P ops (Exit.then K Q) [o] a w) : wpOp P ops Q i K a w := by
  have h1 : wpOp P ops (Exit.then K Q) i (wpList P ops (Exit.then K Q) []) a w := by unfold wpOp; simp only [ho]; exact h
  exact wpOp_mono (fun a' w' h' => h') (wpOp_then h1)

theorem wpList_nil_then {K : Act → World → Prop} {a : Act} {w : World} (h : K a w) : wpList P ops (Exit.then K Q) [] a w := h

theorem wpAny_step {f : Nat} {listed : Array Bool} {a : Act} {w : World} (R : List Nat) (hR : Region.ready md ops listed = R) (hne : R ≠ []) (h : ∀ i ∈ R, wpOp P ops Q i (wpAny P md ops Q f (listed.setIfInBounds i true)) a w) : wpAny P md ops Q (f + 1) listed a w :=
  ⟨fun h0 => absurd (hR.symm.trans h0) hne, fun i hi => h i (by rw [← hR]; exact hi)⟩

/-- i ahead of j, and k anywhere. -/
theorem wpAny_fork3 {f i j k : Nat} {listed : Array Bool} {a : Act} {w : World} (G : Act → World → Prop)
    (h1 : Region.ready md ops listed = [i, k]) (h2 : Region.ready md ops (listed.setIfInBounds i true) = [j, k]) (h3 : Region.ready md ops ((listed.setIfInBounds i true).setIfInBounds j true) = [k])
    (h4 : Region.ready md ops ((listed.setIfInBounds i true).setIfInBounds k true) = [j]) (h5 : Region.ready md ops (listed.setIfInBounds k true) = [i]) (h6 : Region.ready md ops ((listed.setIfInBounds k true).setIfInBounds i true) = [j])
    (hij : i ≠ j) (hik : i ≠ k) (hjk : j ≠ k)
    (rest : ∀ a' w', G a' w' → wpAny P md ops Q f (((listed.setIfInBounds i true).setIfInBounds j true).setIfInBounds k true) a' w')
    (p1 : wpOp P ops Q i (fun a1 w1 => wpOp P ops Q j (fun a2 w2 => wpOp P ops Q k G a2 w2) a1 w1 ∧ wpOp P ops Q k (fun a2 w2 => wpOp P ops Q j G a2 w2) a1 w1) a w)
    (p2 : wpOp P ops Q k (fun a1 w1 => wpOp P ops Q i (fun a2 w2 => wpOp P ops Q j G a2 w2) a1 w1) a w) : wpAny P md ops Q (f + 3) listed a w := by
  have e1 : ((listed.setIfInBounds i true).setIfInBounds k true).setIfInBounds j true = ((listed.setIfInBounds i true).setIfInBounds j true).setIfInBounds k true := Array.setIfInBounds_comm _ _ (Ne.symm hjk)
  have e2 : ((listed.setIfInBounds k true).setIfInBounds i true).setIfInBounds j true = ((listed.setIfInBounds i true).setIfInBounds j true).setIfInBounds k true := by
    rw [Array.setIfInBounds_comm _ _ (Ne.symm hik), e1]
  refine wpAny_step [i, k] h1 (by simp) fun x hx => ?_
  simp only [List.mem_cons, List.not_mem_nil, or_false] at hx
  rcases hx with rfl | rfl
  · refine wpOp_mono (fun a1 w1 h => ?_) p1
    refine wpAny_step [j, k] h2 (by simp) fun x hx => ?_
    simp only [List.mem_cons, List.not_mem_nil, or_false] at hx
    rcases hx with rfl | rfl
    · refine wpOp_mono (fun a2 w2 h' => ?_) h.1
      refine wpAny_step [k] h3 (by simp) fun x hx => ?_
      simp only [List.mem_cons, List.not_mem_nil, or_false] at hx
      subst hx
      exact wpOp_mono (fun a3 w3 h'' => rest _ _ h'') h'
    · refine wpOp_mono (fun a2 w2 h' => ?_) h.2
      refine wpAny_step [j] h4 (by simp) fun x hx => ?_
      simp only [List.mem_cons, List.not_mem_nil, or_false] at hx
      subst hx
      refine wpOp_mono (fun a3 w3 h'' => ?_) h'
      rw [e1]
      exact rest _ _ h''
  · refine wpOp_mono (fun a1 w1 h => ?_) p2
    refine wpAny_step [i] h5 (by simp) fun y hy => ?_
    simp only [List.mem_cons, List.not_mem_nil, or_false] at hy
    subst hy
    refine wpOp_mono (fun a2 w2 h' => ?_) h
    refine wpAny_step [j] h6 (by simp) fun y hy => ?_
    simp only [List.mem_cons, List.not_mem_nil, or_false] at hy
    subst hy
    refine wpOp_mono (fun a3 w3 h'' => ?_) h'
    rw [e2]
    exact rest _ _ h''

/-- i and k, in either order. -/
theorem wpAny_fork2 {f i k : Nat} {listed : Array Bool} {a : Act} {w : World} (G : Act → World → Prop)
    (h1 : Region.ready md ops listed = [i, k]) (h2 : Region.ready md ops (listed.setIfInBounds i true) = [k]) (h3 : Region.ready md ops (listed.setIfInBounds k true) = [i]) (hik : i ≠ k)
    (rest : ∀ a' w', G a' w' → wpAny P md ops Q f ((listed.setIfInBounds i true).setIfInBounds k true) a' w')
    (p1 : wpOp P ops Q i (fun a1 w1 => wpOp P ops Q k G a1 w1) a w) (p2 : wpOp P ops Q k (fun a1 w1 => wpOp P ops Q i G a1 w1) a w) : wpAny P md ops Q (f + 2) listed a w := by
  refine wpAny_step [i, k] h1 (by simp) fun x hx => ?_
  simp only [List.mem_cons, List.not_mem_nil, or_false] at hx
  rcases hx with rfl | rfl
  · refine wpOp_mono (fun a1 w1 h => ?_) p1
    refine wpAny_step [k] h2 (by simp) fun x hx => ?_
    simp only [List.mem_cons, List.not_mem_nil, or_false] at hx
    subst hx
    exact wpOp_mono (fun a3 w3 h'' => rest _ _ h'') h
  · refine wpOp_mono (fun a1 w1 h => ?_) p2
    refine wpAny_step [i] h3 (by simp) fun y hy => ?_
    simp only [List.mem_cons, List.not_mem_nil, or_false] at hy
    subst hy
    refine wpOp_mono (fun a3 w3 h'' => ?_) h
    rw [Array.setIfInBounds_comm _ _ (Ne.symm hik)]
    exact rest _ _ h''

/-- Some that come up one by one; then more. -/
def seqPre (md : Region.Mode) (ops : Array Oper) : List Nat → Array Bool → Bool
  | [], _ => true
  | i :: r, listed => decide (Region.ready md ops listed = [i]) && seqPre md ops r (listed.setIfInBounds i true)

def setAll (listed : Array Bool) : List Nat → Array Bool
  | [] => listed
  | i :: r => setAll (listed.setIfInBounds i true) r

theorem wpAny_pre {f : Nat} {l : List Oper} (hl : ops = l.toArray) {G : Act → World → Prop} : ∀ (T : List Nat) (listed : Array Bool) (a : Act) (w : World), seqPre md ops T listed = true →
    (∀ a' w', G a' w' → wpAny P md ops Q f (setAll listed T) a' w') → wpList P ops (Exit.then G Q) (sel l T) a w → wpAny P md ops Q (f + T.length) listed a w
  | [], _, _, _, _, rest, h => rest _ _ h
  | i :: r, listed, a, w, hB, rest, h => by
    simp only [seqPre, Bool.and_eq_true, decide_eq_true_eq] at hB
    have hmem : i ∈ Region.ready md ops listed := by rw [hB.1]; simp
    obtain ⟨_, o, ho, _⟩ := mem_ready.1 hmem
    have ho' : l[i]? = some o := by subst hl; simpa using ho
    refine wpAny_step [i] hB.1 (by simp) fun k hk => ?_
    have hki : k = i := by simpa using hk
    subst hki
    have h' : wpList P ops (Exit.then G Q) (o :: sel l r) a w := by simpa [sel, ho'] using h
    have hw : wpOp P ops (Exit.then G Q) k (wpList P ops (Exit.then G Q) (sel l r)) a w := by unfold wpOp; simp only [ho]; exact h'
    exact wpOp_mono (fun a' w' h'' => wpAny_pre hl r _ a' w' hB.2 rest h'') (wpOp_then hw)

end
end Go.Proofs.YtanmfldgillodaaGreat
