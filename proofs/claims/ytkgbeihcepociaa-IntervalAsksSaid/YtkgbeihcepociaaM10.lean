/- Part 10 of the proof: Rtc, Rtp, Tk, Try, Pl1, Trp, Cpy, Sel, Act. -/
import Derived.Test.YtkgbeihcepociaaM9
section

set_option linter.unusedSimpArgs false
set_option linter.unusedVariables false
set_option maxRecDepth 10000
set_option maxHeartbeats 4000000
namespace Go.Proofs.Ytkgbeihcepociaa.Ex
open Go
theorem sort_c {H : AH} {p : Nat} {xs : List Int} {c : Cap} {Q : AV → AH → Prop} (hat : H.at p = some (.cells (iL xs) 3)) (hne : xs ≠ []) (hl : xs.length ≤ 4611686018427387903) (hq : Q (.tup []) (H.put p (.cells (iL (srtI xs)) 3))) :
    WC Try.prog (tabOf Try.prog NT0) S0 89 [.sl p 0 xs.length c] H Q := by
  refine WC_sum Try.func89 rfl (g := sSort) rfl ?_ hq
  have h0 : Nat.beq xs.length 0 = false := by
    cases xs with
    | nil => exact absurd rfl hne
    | cons => rfl
  have hi : intsL (iL xs) = some xs := intsL_avI xs
  unfold sSort
  simp only [h0, cond_false, hat, hi]
  have h1 : Nat.beq xs.length xs.length = true := by simp
  have h2 : Nat.ble xs.length 4611686018427387903 = true := Nat.ble_eq_true_of_le hl
  rw [h1, h2]
  rfl
theorem sort_nil_c {H : AH} {Q : AV → AH → Prop} (hq : Q (.tup []) H) : WC Try.prog (tabOf Try.prog NT0) S0 89 [.lit (.slice none 0 0)] H Q :=
  WC_sum Try.func89 rfl (g := sSort) rfl rfl hq
theorem sort_zero_c {H : AH} {p : Nat} {c : Cap} {Q : AV → AH → Prop} (hq : Q (.tup []) H) : WC Try.prog (tabOf Try.prog NT0) S0 89 [.sl p 0 0 c] H Q :=
  WC_sum Try.func89 rfl (g := sSort) rfl rfl hq
theorem compact_c {H : AH} {p : Nat} {xs : List Int} {c : Cap} {Q : AV → AH → Prop} (hat : H.at p = some (.cells (iL xs) 3)) (hne : xs ≠ []) (hl : xs.length ≤ 4611686018427387903) (hq : Q (.sl p 0 (cmpI xs).length c) (H.put p (.cells (iL (cmpO xs)) 3))) :
    WC Try.prog (tabOf Try.prog NT0) S0 90 [.sl p 0 xs.length c] H Q := by
  refine WC_sum Try.func90 rfl (g := sCompact) rfl ?_ hq
  have h0 : Nat.beq xs.length 0 = false := by
    cases xs with
    | nil => exact absurd rfl hne
    | cons => rfl
  have hi : intsL (iL xs) = some xs := intsL_avI xs
  unfold sCompact
  simp only [h0, cond_false, hat, hi]
  have h1 : Nat.beq xs.length xs.length = true := by simp
  have h2 : Nat.ble xs.length 4611686018427387903 = true := Nat.ble_eq_true_of_le hl
  rw [h1, h2]
  rfl
theorem compact_nil_c {H : AH} {Q : AV → AH → Prop} (hq : Q (.lit (.slice none 0 0)) H) : WC Try.prog (tabOf Try.prog NT0) S0 90 [.lit (.slice none 0 0)] H Q :=
  WC_sum Try.func90 rfl (g := sCompact) rfl rfl hq
theorem compact_zero_c {H : AH} {p : Nat} {c : Cap} {Q : AV → AH → Prop} (hq : Q (.sl p 0 0 c) H) : WC Try.prog (tabOf Try.prog NT0) S0 90 [.sl p 0 0 c] H Q :=
  WC_sum Try.func90 rfl (g := sCompact) rfl rfl hq
theorem cmpI_dis {xs : List Int} (hne : ∀ i, i + 1 < xs.length → ¬ xs.getD (i + 1) 0 = xs.getD i 0) : cmpI xs = xs ∧ cmpO xs = xs := by
  have h1 : cmpI xs = xs := by
    refine Lib.compact_all xs fun j hj => ?_
    unfold Lib.keeps
    rw [decide_eq_true_eq]
    cases j with
    | zero => exact .inl rfl
    | succ i =>
      refine .inr fun hh => hne i hj ?_
      have e1 : xs.toArray[i + 1]! = xs.getD (i + 1) 0 := by simp [List.getD_eq_getElem?_getD, List.getElem!_eq_getElem?_getD]
      have e2 : xs.toArray[i + 1 - 1]! = xs.getD i 0 := by simp [List.getD_eq_getElem?_getD, List.getElem!_eq_getElem?_getD]
      rw [e1, e2] at hh
      exact hh
  exact ⟨h1, by unfold cmpO; rw [h1, Nat.sub_self]; simp⟩
theorem reverse_nil {H : AH} : WC Try.prog (tabOf Try.prog NT0) S0 163 [.lit (.slice none 0 0)] H fun r h' => h' = H := by
  refine WC_fn Try.func163 rfl rfl ?_
  have w1 : IntKind.i64.wrap (0 - 1) = -1 := by decide
  have c1 : ((0 : Int) < -1) = False := by decide
  have w2 : IntKind.i64.wrap (((0 : Nat) : Int) - 1) = -1 := by decide
  have q1 : isSl (.lit (.slice none 0 0)) = true := rfl
  have q2 : lenD (.lit (.slice none 0 0)) = 0 := rfl
  simp only [core, Nat.reduceAdd, Nat.reduceSub, Nat.reduceMul, Nat.reduceLT, Nat.reduceEqDiff, reduceCtorEq, Nat.reduceLeDiff, Int.reduceLE, Int.reduceLT, Int.reduceToNat, Try.ntmps163, q1, q2, w1, w2]
  refine WB_ind (fun (i : Nat) t h => h = H ∧ t.n = 28 ∧ t.get 0 = .lit (.slice none 0 0) ∧ t.get 2 = .lit (.int .i64 0) ∧ t.get 3 = .lit (.int .i64 (-1))) (fun i => 0) ?_ 0 _ _ ?_
  · rintro i t h ⟨rfl, hn, g0, g2, g3⟩ ih
    simp only [core, Nat.reduceAdd, Nat.reduceSub, Nat.reduceMul, Nat.reduceLT, Nat.reduceEqDiff, reduceCtorEq, Nat.reduceLeDiff, Int.reduceLE, Int.reduceLT, Int.reduceToNat, hn, g0, g2, g3, c1]
    exact Or.inl trivial
  · refine ⟨rfl, ?_⟩
    simp only [core, Nat.reduceAdd, Nat.reduceSub, Nat.reduceMul, Nat.reduceLT, Nat.reduceEqDiff, reduceCtorEq, Nat.reduceLeDiff, Int.reduceLE, Int.reduceLT, Int.reduceToNat]
/-- The buckets without a parent, in order. -/
def orphN (m : MapD) : Nat → List Int
  | 0 => []
  | i + 1 => if (parentF m (m.buckets.getD i bkt0).id).isSome then orphN m i else orphN m i ++ [(m.buckets.getD i bkt0).id]
theorem orphN_len (m : MapD) : ∀ i, (orphN m i).length ≤ i
  | 0 => Nat.le_refl 0
  | i + 1 => by
    have := orphN_len m i
    unfold orphN
    split
    · omega
    · simp; omega
def crootsF (m : MapD) : List Int := (srtI (orphN m m.buckets.length)).reverse
theorem rootsC_x {F : Nat → Prop} {H : AH} {m : MapD} {vo vp vb : AV} (hm : MpAt F H m vo vp vb) (hok : OkM m) (hdis : ∀ i, i + 1 < (crootsF m).length → ¬ (crootsF m).getD (i + 1) 0 = (crootsF m).getD i 0) :
    WC Try.prog (tabOf Try.prog NT0) S0 130 [mpV m vo vp vb] H fun v h' => Ext H.n H h' ∧ IsSl RInt (fun b => H.n ≤ b) h' v (crootsF m) := by
  refine WC_fn Try.func130 rfl rfl ?_
  obtain ⟨hl, hbs, hit⟩ := hok
  have hl0 := hl
  unfold Sm at hl
  have s1 := hm.b.isSl
  have s2 := hm.b.lenD
  have o1 := hm.o.one
  have o2 := hm.p.one
  have o3 := hm.b.one
  have EP : ∀ x, Ext H.n H (H.push x) := fun x => (Ext.refl _ _).push _ (Nat.le_refl _)
  simp only [core, Nat.reduceAdd, Nat.reduceSub, Nat.reduceMul, Nat.reduceLT, Nat.reduceEqDiff, reduceCtorEq, Nat.reduceLeDiff, Int.reduceLE, Int.reduceLT, Int.reduceToNat, Try.ntmps130, mpV, s1, s2, o1, o2, o3]
  obtain ⟨h1, hh1⟩ : ∃ h1, h1 = H.push (.cells [.lit (.int .i64 m.epoch), vo, vp, vb, .lit (.int .i64 m.leaf)] 31) := ⟨_, rfl⟩
  have E0 : Ext H.n H h1 := hh1 ▸ EP _
  have A0 : h1.at H.n = some (.cells [.lit (.int .i64 m.epoch), vo, vp, vb, .lit (.int .i64 m.leaf)] 31) := hh1 ▸ at_push_n _ _
  have n1 : h1.n = H.n + 1 := by rw [hh1, n_push]
  rw [← hh1]
  clear hh1
  refine WB_for m.buckets.length (fun i t h => ∃ o, OwnL RInt (fun _ => False) h1.n h o 3 (orphN m i) ∧ Ext h1.n h1 h ∧ t.n = 36 ∧ t.get 1 = .ptr H.n 0 ∧ t.get 3 = o ∧ t.get 9 = vb ∧ t.get 10 = .lit (.int .i64 m.buckets.length) ∧ t.get 11 = .lit (.int .i64 i)) ?_ ?_ _ _ ?_
  · rintro i t h hlt hc ⟨o, ho, he, hn, g1, g3, g9, g10, g11⟩ ih
    obtain ⟨x, hx⟩ : ∃ x, m.buckets[i]? = some x := ⟨_, List.getElem?_eq_getElem hlt⟩
    have E1 : Ext H.n H h := E0.trans (he.mono (by omega))
    obtain ⟨c, hc1, hld, hld0⟩ := hm.b.atE (T := tabOf Try.prog NT0) E1 RBkt_z hx
    obtain ⟨va, vw, rfl, ha, hw, i1, i2⟩ := RBkt_is.1 hc1
    have a1 := ha.one
    have w1 := hw.one
    have hws := wrap_succ hlt (by omega)
    have A1 := (he.2 _ (by omega)).trans A0
    have l1 : H.n < h.n := at_lt A1
    have hstep : orphN m (i + 1) = if (parentF m x.id).isSome then orphN m i else orphN m i ++ [x.id] := by rw [orphN, getD_of hx]
    obtain ⟨hA, hhA⟩ : ∃ hA, hA = h.push (.cells [.lit (.int .i64 x.id), .lit (.int .i64 x.kind), va, vw] 92) := ⟨_, rfl⟩
    have EA : Ext h.n h hA := hhA ▸ (Ext.refl _ _).push _ (Nat.le_refl _)
    have PA : hA.at h.n = some (.cells [.lit (.int .i64 x.id), .lit (.int .i64 x.kind), va, vw] 92) := hhA ▸ at_push_n h _
    have AA := (EA.2 _ l1).trans A1
    have LAA := ld_at (T := tabOf Try.prog NT0) AA
    have lA := at_lt AA
    have LPA := ld_at (T := tabOf Try.prog NT0) PA
    have lPA := at_lt PA
    have EHA := E1.step EA
    simp only [core, Nat.reduceAdd, Nat.reduceSub, Nat.reduceMul, Nat.reduceLT, Nat.reduceEqDiff, reduceCtorEq, Nat.reduceLeDiff, Int.reduceLE, Int.reduceLT, Int.reduceToNat, s1, s2, hn, g1, g3, g9, g10, g11, hlt, hc, hld, hld0, a1, w1, ← hhA, LPA, lPA, LAA, lA]
    refine (parent_x x.id (hm.ext EHA (Nat.le_refl _)) hl0 hbs).mono ?_
    rintro _ h2 ⟨e2, v1, v2, rfl, b1, b2⟩
    have o4 := b1.one
    have o5 := b2.one
    have E2 := EHA.step e2
    have P2 := (e2.2 _ lPA).trans PA
    have l2 := at_lt P2
    simp only [core, Nat.reduceAdd, Nat.reduceSub, Nat.reduceMul, Nat.reduceLT, Nat.reduceEqDiff, reduceCtorEq, Nat.reduceLeDiff, Int.reduceLE, Int.reduceLT, Int.reduceToNat, hn, g1, g3, g9, g10, g11, bktV, o4, o5]
    obtain ⟨h3, hh3⟩ : ∃ h3, h3 = h2.push (.cells [.lit (.int .i64 (parentG m x.id).id), .lit (.int .i64 (parentG m x.id).kind), v1, v2] 92) := ⟨_, rfl⟩
    have e3 : Ext h2.n h2 h3 := hh3 ▸ (Ext.refl _ _).push _ (Nat.le_refl _)
    have P3 := (e3.2 _ l2).trans P2
    have l3 := at_lt P3
    have LP3 := ld_at (T := tabOf Try.prog NT0) P3
    have he3 : Ext h1.n h1 h3 := ((he.step EA).step e2).step e3
    have ho3 := ((ho.ext EA (Nat.le_refl _)).ext e2 (Nat.le_refl _)).ext e3 (Nat.le_refl _)
    rw [← hh3]
    clear hh3
    cases hp : (parentF m x.id).isSome with
    | true =>
      rw [hp, if_pos rfl] at hstep
      simp only [core, Nat.reduceAdd, Nat.reduceSub, Nat.reduceMul, Nat.reduceLT, Nat.reduceEqDiff, reduceCtorEq, Nat.reduceLeDiff, Int.reduceLE, Int.reduceLT, Int.reduceToNat, hn, g1, g3, g9, g10, g11, hws]
      refine ih _ _ ⟨o, by rw [hstep]; exact ho3, he3, ?_⟩
      simp only [core, Nat.reduceAdd, Nat.reduceSub, Nat.reduceMul, Nat.reduceLT, Nat.reduceEqDiff, reduceCtorEq, Nat.reduceLeDiff, Int.reduceLE, Int.reduceLT, Int.reduceToNat, hn, g1, g3, g9, g10, g11]
    | false =>
      rw [hp, if_neg (by decide)] at hstep
      simp only [core, Nat.reduceAdd, Nat.reduceSub, Nat.reduceMul, Nat.reduceLT, Nat.reduceEqDiff, reduceCtorEq, Nat.reduceLeDiff, Int.reduceLE, Int.reduceLT, Int.reduceToNat, hn, g1, g3, g9, g10, g11, LP3, l3]
      obtain ⟨h6, hh6⟩ : ∃ h6, h6 = h3.push (.cells [.lit (.int .i64 x.id)] 3) := ⟨_, rfl⟩
      have e6 : Ext h3.n h3 h6 := hh6 ▸ (Ext.refl _ _).push _ (Nat.le_refl _)
      have A6 : h6.at h3.n = some (.cells [.lit (.int .i64 x.id)] 3) := hh6 ▸ at_push_n h3 _
      have n6 := at_lt A6
      rw [← hh6]
      have q0 := he3.1
      have q1 := orphN_len m i
      refine WOp_app ((ho3.ext e6 (Nat.le_refl _)).snoc (by kernel_rfl) (by kernel_rfl) (by kernel_rfl) (zv := .lit (.int .i64 0)) (by kernel_rfl) (by' := 8) (by kernel_rfl) rfl (by decide) (by decide) A6 (y := x.id) ⟨rfl, i1⟩ (by omega) (by omega) (by omega)) ?_
      rintro s' h7 ⟨o7, e7, k7⟩
      have t7 := o7.one
      simp only [core, Nat.reduceAdd, Nat.reduceSub, Nat.reduceMul, Nat.reduceLT, Nat.reduceEqDiff, reduceCtorEq, Nat.reduceLeDiff, Int.reduceLE, Int.reduceLT, Int.reduceToNat, hn, g1, g3, g9, g10, g11, hws, t7]
      refine ih _ _ ⟨s', by rw [hstep]; exact o7, (he3.step e6).trans e7, ?_⟩
      simp only [core, Nat.reduceAdd, Nat.reduceSub, Nat.reduceMul, Nat.reduceLT, Nat.reduceEqDiff, reduceCtorEq, Nat.reduceLeDiff, Int.reduceLE, Int.reduceLT, Int.reduceToNat, hn, g1, g3, g9, g10, g11]
  · rintro t h hc ⟨o, ho, he, hn, g1, g3, g9, g10, g11⟩
    have E1 : Ext H.n H h := E0.trans (he.mono (by omega))
    have q1 := orphN_len m m.buckets.length
    obtain ⟨xs, hxs⟩ : ∃ xs, xs = orphN m m.buckets.length := ⟨_, rfl⟩
    rw [← hxs] at ho q1
    have hcr : crootsF m = (srtI xs).reverse := by unfold crootsF; rw [hxs]
    have hsl : (srtI xs).length = xs.length := by unfold srtI; simp
    by_cases hne : xs = []
    · subst hne
      have hcr0 : crootsF m = [] := by rw [hcr]; unfold srtI; simp
      obtain ⟨L, h1', h2'⟩ := ho
      have hL : L = [] := List.eq_nil_of_length_eq_zero h2'.1
      subst hL
      rcases h1'.2 with ⟨rfl, _⟩ | ⟨p, rfl, hp, hat⟩
      · simp only [core, Nat.reduceAdd, Nat.reduceSub, Nat.reduceMul, Nat.reduceLT, Nat.reduceEqDiff, reduceCtorEq, Nat.reduceLeDiff, Int.reduceLE, Int.reduceLT, Int.reduceToNat, s1, s2, hn, g1, g3, g9, g10, g11, hc]
        refine sort_nil_c ?_
        simp only [core, Nat.reduceAdd, Nat.reduceSub, Nat.reduceMul, Nat.reduceLT, Nat.reduceEqDiff, reduceCtorEq, Nat.reduceLeDiff, Int.reduceLE, Int.reduceLT, Int.reduceToNat, s1, s2, hn, g1, g3, g9, g10, g11, hc]
        refine reverse_nil.mono ?_
        rintro _ h3 rfl
        simp only [core, Nat.reduceAdd, Nat.reduceSub, Nat.reduceMul, Nat.reduceLT, Nat.reduceEqDiff, reduceCtorEq, Nat.reduceLeDiff, Int.reduceLE, Int.reduceLT, Int.reduceToNat, s1, s2, hn, g1, g3, g9, g10, g11, hc]
        refine compact_nil_c ?_
        simp only [core, Nat.reduceAdd, Nat.reduceSub, Nat.reduceMul, Nat.reduceLT, Nat.reduceEqDiff, reduceCtorEq, Nat.reduceLeDiff, Int.reduceLE, Int.reduceLT, Int.reduceToNat, s1, s2, hn, g1, g3, g9, g10, g11, hc]
        rw [hcr0]
        exact ⟨E1, IsSl.nil⟩
      · have hat : h.at p = some (.cells (iL []) 3) := hat
        simp only [core, Nat.reduceAdd, Nat.reduceSub, Nat.reduceMul, Nat.reduceLT, Nat.reduceEqDiff, reduceCtorEq, Nat.reduceLeDiff, Int.reduceLE, Int.reduceLT, Int.reduceToNat, s1, s2, hn, g1, g3, g9, g10, g11, hc]
        refine sort_zero_c ?_
        simp only [core, Nat.reduceAdd, Nat.reduceSub, Nat.reduceMul, Nat.reduceLT, Nat.reduceEqDiff, reduceCtorEq, Nat.reduceLeDiff, Int.reduceLE, Int.reduceLT, Int.reduceToNat, s1, s2, hn, g1, g3, g9, g10, g11, hc]
        refine (reverse_x hat (by decide)).mono ?_
        rintro _ h3 ⟨hat3, hn3, hk3⟩
        have E3 : Ext H.n H h3 := ⟨by rw [hn3]; exact E1.1, fun b hb => (hk3 b (by omega)).trans (E1.2 b hb)⟩
        have ho3 : OwnL RInt (fun _ => False) H.n h3 (.sl p 0 ([] : List Int).length (.un 1)) 3 [] := OwnL.ofInts (by omega) hat3 (fun y hy => by cases hy)
        have hv3 : IsSl RInt (fun b => H.n ≤ b) h3 (.sl p 0 0 (.un 1)) [] := ho3.toSl (fun _ hf => hf.elim) (fun b hb => hb)
        simp only [core, Nat.reduceAdd, Nat.reduceSub, Nat.reduceMul, Nat.reduceLT, Nat.reduceEqDiff, reduceCtorEq, Nat.reduceLeDiff, Int.reduceLE, Int.reduceLT, Int.reduceToNat, s1, s2, hn, g1, g3, g9, g10, g11, hc]
        refine compact_zero_c ?_
        simp only [core, Nat.reduceAdd, Nat.reduceSub, Nat.reduceMul, Nat.reduceLT, Nat.reduceEqDiff, reduceCtorEq, Nat.reduceLeDiff, Int.reduceLE, Int.reduceLT, Int.reduceToNat, s1, s2, hn, g1, g3, g9, g10, g11, hc]
        rw [hcr0]
        exact ⟨E3, hv3⟩
    · obtain ⟨p, rfl, hp, hat, hI⟩ := ho.ints hne
      simp only [core, Nat.reduceAdd, Nat.reduceSub, Nat.reduceMul, Nat.reduceLT, Nat.reduceEqDiff, reduceCtorEq, Nat.reduceLeDiff, Int.reduceLE, Int.reduceLT, Int.reduceToNat, s1, s2, hn, g1, g3, g9, g10, g11, hc]
      refine sort_c hat hne (by omega) ?_
      obtain ⟨h2, hh2⟩ : ∃ h2, h2 = h.put p (.cells (iL (srtI xs)) 3) := ⟨_, rfl⟩
      have hat2 : h2.at p = some (.cells (iL (srtI xs)) 3) := hh2 ▸ at_put_same _ (at_lt hat)
      have E2 : Ext H.n H h2 := hh2 ▸ E1.put _ (by omega)
      rw [← hh2]
      clear hh2
      simp only [core, Nat.reduceAdd, Nat.reduceSub, Nat.reduceMul, Nat.reduceLT, Nat.reduceEqDiff, reduceCtorEq, Nat.reduceLeDiff, Int.reduceLE, Int.reduceLT, Int.reduceToNat, s1, s2, hn, g1, g3, g9, g10, g11, hc]
      have hrv := reverse_x hat2 (by omega)
      rw [hsl] at hrv
      refine hrv.mono ?_
      rintro _ h3 ⟨hat3, hn3, hk3⟩
      have E3 : Ext H.n H h3 := ⟨by rw [hn3]; exact E2.1, fun b hb => (hk3 b (by omega)).trans (E2.2 b hb)⟩
      have hlr : (srtI xs).reverse.length = xs.length := by simp [hsl]
      have hI2 : ∀ y ∈ (srtI xs).reverse, I64 y := fun y hy => hI y (by
        rw [List.mem_reverse] at hy
        unfold srtI at hy
        exact (List.mergeSort_perm _ _).mem_iff.1 hy)
      have ho3 : OwnL RInt (fun _ => False) H.n h3 (.sl p 0 (srtI xs).reverse.length (.un 1)) 3 (srtI xs).reverse := OwnL.ofInts (by omega) hat3 hI2
      have hv3 : IsSl RInt (fun b => H.n ≤ b) h3 (.sl p 0 xs.length (.un 1)) (crootsF m) := by
        rw [hcr, ← hlr]
        exact ho3.toSl (fun _ hf => hf.elim) (fun b hb => hb)
      simp only [core, Nat.reduceAdd, Nat.reduceSub, Nat.reduceMul, Nat.reduceLT, Nat.reduceEqDiff, reduceCtorEq, Nat.reduceLeDiff, Int.reduceLE, Int.reduceLT, Int.reduceToNat, s1, s2, hn, g1, g3, g9, g10, g11, hc]
      rw [hcr] at hdis
      obtain ⟨d1, d2⟩ := cmpI_dis hdis
      have hne3 : (srtI xs).reverse ≠ [] := fun hh => hne (List.eq_nil_of_length_eq_zero (by rw [← hlr, hh]; rfl))
      rw [← hlr]
      refine compact_c hat3 hne3 (by rw [hlr]; omega) ?_
      rw [d1, d2]
      simp only [core, Nat.reduceAdd, Nat.reduceSub, Nat.reduceMul, Nat.reduceLT, Nat.reduceEqDiff, reduceCtorEq, Nat.reduceLeDiff, Int.reduceLE, Int.reduceLT, Int.reduceToNat, s1, s2, hn, g1, g3, g9, g10, g11, hc]
      refine ⟨E3.put _ (by omega), ?_⟩
      have ho4 : OwnL RInt (fun _ => False) H.n (h3.put p (.cells (iL (srtI xs).reverse) 3)) (.sl p 0 (srtI xs).reverse.length (.un 1)) 3 (srtI xs).reverse := OwnL.ofInts (by omega) (at_put_same _ (at_lt hat3)) hI2
      rw [hcr]
      exact ho4.toSl (fun _ hf => hf.elim) (fun b hb => hb)
  · refine ⟨_, OwnL.nil, Ext.refl _ _, ?_⟩
    simp only [core, Nat.reduceAdd, Nat.reduceSub, Nat.reduceMul, Nat.reduceLT, Nat.reduceEqDiff, reduceCtorEq, Nat.reduceLeDiff, Int.reduceLE, Int.reduceLT, Int.reduceToNat]
    (repeat' apply And.intro) <;> first | rfl | trivial
end Go.Proofs.Ytkgbeihcepociaa.Ex
end

section

set_option linter.unusedSimpArgs false
set_option linter.unusedVariables false
set_option maxRecDepth 10000
set_option maxHeartbeats 4000000
namespace Go.Proofs.Ytkgbeihcepociaa.Ex
open Go
theorem insD_perm {x : Int} {l : List Int} : (insD x l).Perm (x :: l) := by
  unfold insD
  have h := (List.perm_middle (a := x) (l₁ := l.take (posF x l l.length)) (l₂ := l.drop (posF x l l.length)))
  rw [List.take_append_drop] at h
  exact h
theorem posF_spec {x : Int} {l : List Int} : ∀ n, n ≤ l.length → (∀ k, posF x l n ≤ k → k < n → l.getD k 0 < x) ∧ (0 < posF x l n → x ≤ l.getD (posF x l n - 1) 0)
  | 0, _ => ⟨fun k h1 h2 => by omega, fun h => by unfold posF at h; omega⟩
  | n + 1, hn => by
    obtain ⟨h1, h2⟩ := posF_spec (x := x) (l := l) n (by omega)
    unfold posF
    split
    · rename_i hq
      refine ⟨fun k h3 h4 => ?_, h2⟩
      by_cases hk : k = n
      · subst hk; simpa using hq
      · exact h1 k h3 (by omega)
    · rename_i hq
      refine ⟨fun k h3 h4 => by omega, fun _ => ?_⟩
      simpa using hq
theorem desc_get {l : List Int} (hs : l.Pairwise (fun a b => b < a)) {i j : Nat} (hij : i < j) (hj : j < l.length) : l.getD j 0 < l.getD i 0 := by
  rw [List.getD_eq_getElem?_getD, List.getD_eq_getElem?_getD, List.getElem?_eq_getElem hj, List.getElem?_eq_getElem (by omega)]
  exact List.pairwise_iff_getElem.1 hs i j (by omega) hj hij
theorem insD_desc {x : Int} {l : List Int} (hs : l.Pairwise (fun a b => b < a)) (hx : x ∉ l) : (insD x l).Pairwise (fun a b => b < a) := by
  obtain ⟨h1, h2⟩ := posF_spec (x := x) (l := l) l.length (Nat.le_refl _)
  have hp := posF_le x l l.length
  unfold insD
  rw [List.pairwise_append]
  refine ⟨hs.sublist (List.take_sublist _ _), List.pairwise_cons.2 ⟨fun y hy => ?_, hs.sublist (List.drop_sublist _ _)⟩, fun y hy z hz => ?_⟩
  · obtain ⟨j, hj, rfl⟩ := List.mem_iff_getElem.1 hy
    rw [List.length_drop] at hj
    have := h1 (posF x l l.length + j) (by omega) (by omega)
    rw [List.getD_eq_getElem?_getD, List.getElem?_eq_getElem (by omega)] at this
    rw [List.getElem_drop]
    exact this
  · obtain ⟨j, hj, rfl⟩ := List.mem_iff_getElem.1 hy
    rw [List.length_take] at hj
    have hjl : j < l.length := by omega
    have hyx : x < (l.take (posF x l l.length))[j] := by
      have e : (l.take (posF x l l.length))[j] = l.getD j 0 := by
        rw [List.getElem_take, List.getD_eq_getElem?_getD, List.getElem?_eq_getElem hjl]
        rfl
      rw [e]
      have h3 := h2 (by omega)
      have h4 : l.getD (posF x l l.length - 1) 0 ≤ l.getD j 0 := by
        by_cases hh : j = posF x l l.length - 1
        · rw [← hh]; exact Int.le_refl _
        · exact Int.le_of_lt (desc_get hs (by omega) (by omega))
      have h5 : l.getD j 0 ≠ x := fun hh => hx (by
        rw [← hh, List.getD_eq_getElem?_getD, List.getElem?_eq_getElem hjl]
        exact List.getElem_mem hjl)
      omega
    rcases List.mem_cons.1 hz with rfl | hz
    · exact hyx
    · obtain ⟨k, hk, rfl⟩ := List.mem_iff_getElem.1 hz
      rw [List.length_drop] at hk
      have := h1 (posF x l l.length + k) (by omega) (by omega)
      rw [List.getD_eq_getElem?_getD, List.getElem?_eq_getElem (by omega)] at this
      rw [List.getElem_drop]
      exact Int.lt_trans this hyx
theorem parent_within {m : MapD} {id : Int} : (parentF m id).isSome = withinF m id := by
  unfold parentF withinF
  apply Bool.eq_iff_iff.2
  rw [List.find?_isSome, List.any_eq_true]
theorem good_once {m : MapD} (hg : goodF m = true) {i : Nat} (hi : i < m.buckets.length) : twiceF m i = false := by
  unfold goodF at hg
  simp only [Bool.and_eq_true] at hg
  have := List.all_eq_true.1 hg.2 i (List.mem_range.2 hi)
  unfold bOk hdOk at this
  simp only [Bool.and_eq_true] at this
  have h := this.1.1.1.1.1.1
  unfold twiceF
  simpa using h
theorem roots_walk {m : MapD} (hg : goodF m = true) : ∀ i, i ≤ m.buckets.length → (rootsN m i).Perm (orphN m i) ∧ (rootsN m i).Pairwise (fun a b => b < a) ∧ ∀ y ∈ orphN m i, ∃ c ∈ m.buckets.take i, c.id = y
  | 0, _ => ⟨List.Perm.refl _, List.Pairwise.nil, fun y hy => by cases hy⟩
  | i + 1, hi => by
    obtain ⟨h1, h2, h3⟩ := roots_walk hg i (by omega)
    have hx : m.buckets[i]? = some (m.buckets.getD i bkt0) := getD_some' bkt0 (by omega)
    have htk : m.buckets.take (i + 1) = m.buckets.take i ++ [m.buckets.getD i bkt0] := by rw [List.take_add_one, hx]; rfl
    unfold rootsN orphN
    rw [good_once hg (by omega), Bool.or_false, parent_within]
    cases hw : withinF m (m.buckets.getD i bkt0).id with
    | true =>
      refine ⟨h1, h2, fun y hy => ?_⟩
      obtain ⟨c, hc, hcy⟩ := h3 y hy
      exact ⟨c, by rw [htk]; exact List.mem_append.2 (.inl hc), hcy⟩
    | false =>
      have hno : (m.buckets.getD i bkt0).id ∉ rootsN m i := fun hmem => by
        obtain ⟨c, hc, hcy⟩ := h3 _ (h1.mem_iff.1 hmem)
        have := good_once hg (show i < m.buckets.length by omega)
        unfold twiceF at this
        rw [List.any_eq_false] at this
        exact this c hc (by simpa using hcy)
      refine ⟨?_, insD_desc h2 hno, fun y hy => ?_⟩
      · refine insD_perm.trans ((List.Perm.cons _ h1).trans ?_)
        exact (List.perm_append_comm (l₁ := [_]) (l₂ := orphN m i))
      · rcases List.mem_append.1 hy with hy | hy
        · obtain ⟨c, hc, hcy⟩ := h3 y hy
          exact ⟨c, by rw [htk]; exact List.mem_append.2 (.inl hc), hcy⟩
        · exact ⟨m.buckets.getD i bkt0, by rw [htk]; exact List.mem_append.2 (.inr (List.mem_cons_self ..)), (List.mem_singleton.1 hy).symm⟩
theorem roots_same {m : MapD} (hg : goodF m = true) : crootsF m = rootsR m := by
  obtain ⟨h1, h2, _⟩ := roots_walk hg m.buckets.length (Nat.le_refl _)
  unfold crootsF rootsR
  refine List.Perm.eq_of_pairwise (le := fun a b => b ≤ a) (fun a b _ _ h3 h4 => Int.le_antisymm h4 h3) ?_ (h2.imp fun h => Int.le_of_lt h) ((List.reverse_perm _).trans ((List.mergeSort_perm _ _).trans h1.symm))
  rw [List.pairwise_reverse]
  unfold srtI
  have := List.pairwise_mergeSort (le := fun x y : Int => decide (x ≤ y)) (fun a b c h h' => by simp at *; omega) (fun a b => by simp; omega) (orphN m m.buckets.length)
  exact this.imp fun h => by simpa using h
theorem croots_dis {m : MapD} (hg : goodF m = true) : ∀ i, i + 1 < (crootsF m).length → ¬ (crootsF m).getD (i + 1) 0 = (crootsF m).getD i 0 := fun i hi => by
  obtain ⟨_, h2, _⟩ := roots_walk hg m.buckets.length (Nat.le_refl _)
  rw [roots_same hg] at hi ⊢
  have := desc_get (l := rootsR m) h2 (show i < i + 1 by omega) hi
  omega
theorem rootsG_x {F : Nat → Prop} {H : AH} {m : MapD} {vo vp vb : AV} (hm : MpAt F H m vo vp vb) (hok : OkM m) (hg : goodF m = true) :
    WC Try.prog (tabOf Try.prog NT0) S0 130 [mpV m vo vp vb] H fun v h' => Ext H.n H h' ∧ IsSl RInt (fun b => H.n ≤ b) h' v (rootsR m) := by
  rw [← roots_same hg]
  exact rootsC_x hm hok (croots_dis hg)
end Go.Proofs.Ytkgbeihcepociaa.Ex
end

section

set_option linter.unusedSimpArgs false
set_option linter.unusedVariables false
set_option maxRecDepth 10000
set_option maxHeartbeats 8000000
namespace Go.Proofs.Ytkgbeihcepociaa.Ex
open Go
/-- A chooser's cells. -/
def chC (m : MapD) (vo vp vb : AV) (x : Int) (vs vq : AV) : List AV := [.lit (.int .i64 m.epoch), vo, vp, vb, .lit (.int .i64 m.leaf), .lit (.int .u32 x), vs, vq]
theorem takes_x {F G : Nat → Prop} {H : AH} {m : MapD} {vo vp vb vs vq : AV} {x : Int} {os : List Int} {p k : Nat} (hm : MpAt F H m vo vp vb) (hl : Sm 40 m.osds) (hp : H.at p = some (.cells (chC m vo vp vb x vs vq) 170)) (hs : IsSl RInt G H vs os) (hsl : os.length ≤ 1000) :
    WC Try.prog (tabOf Try.prog NT0) S0 182 [.ptr p 0, .lit (.int .i64 k)] H fun r h' => Ext H.n H h' ∧ r = .lit (.bool (mayF m k x && !os.contains (k : Int))) := by
  refine WC_fn Try.func182 rfl rfl ?_
  unfold Sm at hl
  unfold chC at hp
  have s1 := hm.o.isSl
  have s2 := hm.o.lenD
  have s3 := hs.isSl
  have lp := at_lt hp
  have LP := ld_at (T := tabOf Try.prog NT0) hp
  by_cases hk : k < m.osds.length
  rotate_left
  · have c1 : (m.osds.length : Int) ≤ (k : Int) := by omega
    simp only [core, Nat.reduceAdd, Nat.reduceSub, Nat.reduceMul, Nat.reduceLT, Nat.reduceEqDiff, reduceCtorEq, Nat.reduceLeDiff, Int.reduceLE, Int.reduceLT, Int.reduceToNat, Try.ntmps182, LP, lp, s1, s2, c1]
    refine ⟨Ext.refl _ _, ?_⟩
    have : m.osds[k]? = none := List.getElem?_eq_none (by omega)
    unfold mayF
    rw [if_pos (by omega), Int.toNat_natCast, this]
    rfl
  have c1 : ¬ (m.osds.length : Int) ≤ (k : Int) := by omega
  obtain ⟨o, ho⟩ : ∃ o, m.osds[k]? = some o := ⟨_, List.getElem?_eq_getElem hk⟩
  have hres : mayF m (k : Int) x = mayO o (k : Int) x := by unfold mayF; rw [if_pos (by omega), Int.toNat_natCast, ho]
  simp only [core, Nat.reduceAdd, Nat.reduceSub, Nat.reduceMul, Nat.reduceLT, Nat.reduceEqDiff, reduceCtorEq, Nat.reduceLeDiff, Int.reduceLE, Int.reduceLT, Int.reduceToNat, Try.ntmps182, LP, lp, s1, s2, c1]
  refine (contains_x (k : Int) hs (by omega)).mono ?_
  rintro _ h1 ⟨rfl, rfl⟩
  cases hco : os.contains (k : Int) with
  | true =>
    simp only [core, Nat.reduceAdd, Nat.reduceSub, Nat.reduceMul, Nat.reduceLT, Nat.reduceEqDiff, reduceCtorEq, Nat.reduceLeDiff, Int.reduceLE, Int.reduceLT, Int.reduceToNat]
    exact Ext.refl _ _
  | false =>
  obtain ⟨c, hc1, hld, hld0⟩ := hm.o.atE (T := tabOf Try.prog NT0) (Ext.refl _ _) ROsd_z ho
  obtain ⟨rfl, -⟩ := ROsd_is.1 hc1
  simp only [core, Nat.reduceAdd, Nat.reduceSub, Nat.reduceMul, Nat.reduceLT, Nat.reduceEqDiff, reduceCtorEq, Nat.reduceLeDiff, Int.reduceLE, Int.reduceLT, Int.reduceToNat, LP, lp, s1, s2, hk, hld, hld0]
  obtain ⟨hA, hhA⟩ : ∃ hA, hA = h1.push (.cells [.lit (.bool o.ex), .lit (.bool o.up), .lit (.int .i64 o.weight), .lit (.int .i64 o.boot), .lit (.int .i64 o.upFrom), .lit (.int .i64 o.upThru)] 43) := ⟨_, rfl⟩
  have EA : Ext h1.n h1 hA := hhA ▸ (Ext.refl _ _).push _ (Nat.le_refl _)
  have PA : hA.at h1.n = some (.cells [.lit (.bool o.ex), .lit (.bool o.up), .lit (.int .i64 o.weight), .lit (.int .i64 o.boot), .lit (.int .i64 o.upFrom), .lit (.int .i64 o.upThru)] 43) := hhA ▸ at_push_n _ _
  have LA := ld_at (T := tabOf Try.prog NT0) PA
  have la := at_lt PA
  have PC := (EA.2 _ lp).trans hp
  have LC := ld_at (T := tabOf Try.prog NT0) PC
  have lc := at_lt PC
  rw [← hhA]
  clear hhA
  rw [WB_regionD [0, 1, 2, 3, 4, 5, 6, 7, 8, 9, 10, 11, 13, 14, 15, 16, 17, 18, 22, 23, 12, 19, 20, 21, 24, 25, 26] 1412006963573700906660700069524118243616869760544256360968249721346466011565351973626593501215177518672908580619239046012223972200766817852166722705780488590525571064120266307589064219363529374100029332153996355833954304 (by kernel_rfl)]
  cases hex : o.ex with
  | false =>
    repeat (first | ((with_reducible refine WDM_cons ?_; simp only [dw1]; try simp only [dw2, Nat.reduceAdd, Nat.reduceMul, Nat.reduceShiftRight, Nat.reduceMod, Nat.reduceEqDiff]); simp only [core, Nat.reduceAdd, Nat.reduceSub, Nat.reduceMul, Nat.reduceLT, Nat.reduceEqDiff, reduceCtorEq, Nat.reduceLeDiff, Int.reduceLE, Int.reduceLT, Int.reduceToNat, cored, LA, la, hex]) | simp only [core, Nat.reduceAdd, Nat.reduceSub, Nat.reduceMul, Nat.reduceLT, Nat.reduceEqDiff, reduceCtorEq, Nat.reduceLeDiff, Int.reduceLE, Int.reduceLT, Int.reduceToNat, cored, LA, la, hex])
    exact ⟨EA, by rw [hres]; unfold mayO; rw [hex]; rfl⟩
  | true =>
  cases hup : o.up with
  | false =>
    repeat (first | ((with_reducible refine WDM_cons ?_; simp only [dw1]; try simp only [dw2, Nat.reduceAdd, Nat.reduceMul, Nat.reduceShiftRight, Nat.reduceMod, Nat.reduceEqDiff]); simp only [core, Nat.reduceAdd, Nat.reduceSub, Nat.reduceMul, Nat.reduceLT, Nat.reduceEqDiff, reduceCtorEq, Nat.reduceLeDiff, Int.reduceLE, Int.reduceLT, Int.reduceToNat, cored, LA, la, hex, hup]) | simp only [core, Nat.reduceAdd, Nat.reduceSub, Nat.reduceMul, Nat.reduceLT, Nat.reduceEqDiff, reduceCtorEq, Nat.reduceLeDiff, Int.reduceLE, Int.reduceLT, Int.reduceToNat, cored, LA, la, hex, hup])
    exact ⟨EA, by rw [hres]; unfold mayO; rw [hex, hup]; rfl⟩
  | true =>
  by_cases hwt : 0 < o.weight
  · repeat (first | ((with_reducible refine WDM_cons ?_; simp only [dw1]; try simp only [dw2, Nat.reduceAdd, Nat.reduceMul, Nat.reduceShiftRight, Nat.reduceMod, Nat.reduceEqDiff]); simp only [core, Nat.reduceAdd, Nat.reduceSub, Nat.reduceMul, Nat.reduceLT, Nat.reduceEqDiff, reduceCtorEq, Nat.reduceLeDiff, Int.reduceLE, Int.reduceLT, Int.reduceToNat, cored, LA, la, LC, lc, hex, hup, hwt]) | simp only [core, Nat.reduceAdd, Nat.reduceSub, Nat.reduceMul, Nat.reduceLT, Nat.reduceEqDiff, reduceCtorEq, Nat.reduceLeDiff, Int.reduceLE, Int.reduceLT, Int.reduceToNat, cored, LA, la, LC, lc, hex, hup, hwt])
    refine new_x.mono ?_
    rintro _ h2 ⟨q, rfl, e2⟩
    have E2 := EA.step e2
    have P2 := (e2.2 _ la).trans PA
    have L2 := ld_at (T := tabOf Try.prog NT0) P2
    have l2 := at_lt P2
    have C2 := (e2.2 _ lc).trans PC
    have LC2 := ld_at (T := tabOf Try.prog NT0) C2
    have lc2 := at_lt C2
    have h65 : ¬ (65536 : Int) = 0 := by decide
    repeat (first | ((with_reducible refine WDM_cons ?_; simp only [dw1]; try simp only [dw2, Nat.reduceAdd, Nat.reduceMul, Nat.reduceShiftRight, Nat.reduceMod, Nat.reduceEqDiff]); simp only [core, Nat.reduceAdd, Nat.reduceSub, Nat.reduceMul, Nat.reduceLT, Nat.reduceEqDiff, reduceCtorEq, Nat.reduceLeDiff, Int.reduceLE, Int.reduceLT, Int.reduceToNat, cored, L2, l2, LC2, lc2, hex, hup, hwt, h65]) | simp only [core, Nat.reduceAdd, Nat.reduceSub, Nat.reduceMul, Nat.reduceLT, Nat.reduceEqDiff, reduceCtorEq, Nat.reduceLeDiff, Int.reduceLE, Int.reduceLT, Int.reduceToNat, cored, L2, l2, LC2, lc2, hex, hup, hwt, h65])
    refine hash2_c ?_
    repeat (first | ((with_reducible refine WDM_cons ?_; simp only [dw1]; try simp only [dw2, Nat.reduceAdd, Nat.reduceMul, Nat.reduceShiftRight, Nat.reduceMod, Nat.reduceEqDiff]); simp only [core, Nat.reduceAdd, Nat.reduceSub, Nat.reduceMul, Nat.reduceLT, Nat.reduceEqDiff, reduceCtorEq, Nat.reduceLeDiff, Int.reduceLE, Int.reduceLT, Int.reduceToNat, cored, L2, l2, LC2, lc2, hex, hup, hwt, h65]) | simp only [core, Nat.reduceAdd, Nat.reduceSub, Nat.reduceMul, Nat.reduceLT, Nat.reduceEqDiff, reduceCtorEq, Nat.reduceLeDiff, Int.reduceLE, Int.reduceLT, Int.reduceToNat, cored, L2, l2, LC2, lc2, hex, hup, hwt, h65])
    refine ⟨E2, ?_⟩
    rw [hres]; unfold mayO; rw [hex, hup, decide_eq_true hwt]; simp
  · repeat (first | ((with_reducible refine WDM_cons ?_; simp only [dw1]; try simp only [dw2, Nat.reduceAdd, Nat.reduceMul, Nat.reduceShiftRight, Nat.reduceMod, Nat.reduceEqDiff]); simp only [core, Nat.reduceAdd, Nat.reduceSub, Nat.reduceMul, Nat.reduceLT, Nat.reduceEqDiff, reduceCtorEq, Nat.reduceLeDiff, Int.reduceLE, Int.reduceLT, Int.reduceToNat, cored, LA, la, hex, hup, hwt]) | simp only [core, Nat.reduceAdd, Nat.reduceSub, Nat.reduceMul, Nat.reduceLT, Nat.reduceEqDiff, reduceCtorEq, Nat.reduceLeDiff, Int.reduceLE, Int.reduceLT, Int.reduceToNat, cored, LA, la, hex, hup, hwt])
    exact ⟨EA, by rw [hres]; unfold mayO; rw [hex, hup, decide_eq_false hwt]; rfl⟩
end Go.Proofs.Ytkgbeihcepociaa.Ex
end

section

set_option linter.unusedSimpArgs false
set_option linter.unusedVariables false
set_option maxRecDepth 10000
set_option maxHeartbeats 4000000
namespace Go.Proofs.Ytkgbeihcepociaa.Ex
open Go
/-- Is a bucket the one that is had alone? -/
def hitF (m : MapD) (at0 a : Int) (hv : Bool) : Bool := !hv && decide (0 < m.leaf) && ((bucketG m a).kind == m.leaf) && (a != at0)
/-- The way down: the item, and the bucket. -/
def wayF (m : MapD) (at0 x r : Int) (ds : List Int) : Nat → Int → Int → Bool → Option (Int × Int)
  | 0, _, _, _ => none
  | n + 1, a, dm, hv => if 0 ≤ a then some (a, if hv then dm else a) else
    if hitF m at0 a hv && ds.contains a then none else
    match chooseF (bucketG m a).items (bucketG m a).weights x r with
    | none => none
    | some i => wayF m at0 x r ds n ((bucketG m a).items.getD i 0) (if hitF m at0 a hv then a else dm) (hv || hitF m at0 a hv)
def tryC (m : MapD) (at0 x r : Int) (os ds : List Int) : Int × Int × Bool := match wayF m at0 x r ds 4 at0 0 false with
  | none => (0, 0, false)
  | some (o, d) => (o, d, mayF m o x && !os.contains o)
def tryV (y : Int × Int × Bool) : AV := .tup [.lit (.int .i64 y.1), .lit (.int .i64 y.2.1), .lit (.bool y.2.2)]
theorem tryC_x {F G : Nat → Prop} {H : AH} {m : MapD} {vo vp vb vs vq : AV} {x : Int} {os ds : List Int} {p : Nat} (at0 r : Int) (hm : MpAt F H m vo vp vb) (hok : OkM m) (hlo : Sm 40 m.osds) (hg : goodF m = true)
    (hp : H.at p = some (.cells (chC m vo vp vb x vs vq) 170)) (hs : IsSl RInt G H vs os) (hq : IsSl RInt G H vq ds) (hsl : os.length ≤ 1000) (hql : ds.length ≤ 1000) (ha : kindF m at0 ≤ 3) :
    WC Try.prog (tabOf Try.prog NT0) S0 164 [.ptr p 0, .lit (.int .i64 at0), .lit (.int .i64 r)] H fun v h' => Ext H.n H h' ∧ v = tryV (tryC m at0 x r os ds) := by
  refine WC_fn Try.func164 rfl rfl ?_
  obtain ⟨hl, hbs, hit⟩ := id hok
  have o1 := hm.o.one
  have o2 := hm.p.one
  have o3 := hm.b.one
  have q1 := hq.isSl
  have q2 := hq.lenD
  unfold chC at hp
  have lp := at_lt hp
  simp only [core, Nat.reduceAdd, Nat.reduceSub, Nat.reduceMul, Nat.reduceLT, Nat.reduceEqDiff, reduceCtorEq, Nat.reduceLeDiff, Int.reduceLE, Int.reduceLT, Int.reduceToNat, Try.ntmps164]
  refine WB_ind (fun (n : Nat) t h => ∃ a dm hv, Ext H.n H h ∧ 1 ≤ n ∧ kindF m a < (n : Int) ∧ wayF m at0 x r ds n a dm hv = wayF m at0 x r ds 4 at0 0 false ∧ t.n = 88 ∧ t.get 0 = .ptr p 0 ∧ t.get 1 = .lit (.int .i64 at0) ∧ t.get 2 = .lit (.int .i64 r) ∧ t.get 9 = .lit (.int .i64 a) ∧ t.get 10 = .lit (.int .i64 dm) ∧ t.get 11 = .lit (.bool hv)) (fun n => n) ?_ 4 _ _ ?_
  · rintro n t h ⟨a, dm, hv, E1, hn1, hkd, hD, hn, g0, g1, g2, g9, g10, g11⟩ ih
    obtain ⟨n, rfl⟩ : ∃ n', n = n' + 1 := ⟨n - 1, by omega⟩
    rw [wayF] at hD
    have P1 := (E1.2 _ lp).trans hp
    have LP1 := ld_at (T := tabOf Try.prog NT0) P1
    have l1 := at_lt P1
    by_cases h0 : 0 ≤ a
    · have h0' : (a < 0) = False := by simp only [eq_iff_iff, iff_false]; omega
      rw [if_pos h0] at hD
      obtain ⟨k, rfl⟩ : ∃ k : Nat, a = (k : Int) := ⟨a.toNat, by omega⟩
      have hsE := hs.ext E1 (Nat.le_refl _)
      have hmE := hm.ext E1 (Nat.le_refl _)
      have hT : tryC m at0 x r os ds = ((k : Int), (if hv then dm else (k : Int)), mayF m k x && !os.contains (k : Int)) := by
        unfold tryC
        rw [← hD]
      cases hv with
      | true =>
        simp only [core, Nat.reduceAdd, Nat.reduceSub, Nat.reduceMul, Nat.reduceLT, Nat.reduceEqDiff, reduceCtorEq, Nat.reduceLeDiff, Int.reduceLE, Int.reduceLT, Int.reduceToNat, hn, g0, g1, g2, g9, g10, g11, h0']
        refine (takes_x (k := k) hmE hlo P1 hsE hsl).mono ?_
        rintro _ h2 ⟨e2, rfl⟩
        simp only [core, Nat.reduceAdd, Nat.reduceSub, Nat.reduceMul, Nat.reduceLT, Nat.reduceEqDiff, reduceCtorEq, Nat.reduceLeDiff, Int.reduceLE, Int.reduceLT, Int.reduceToNat, hn, g0, g1, g2, g9, g10, g11]
        exact ⟨E1.step e2, by rw [hT]; rfl⟩
      | false =>
        simp only [core, Nat.reduceAdd, Nat.reduceSub, Nat.reduceMul, Nat.reduceLT, Nat.reduceEqDiff, reduceCtorEq, Nat.reduceLeDiff, Int.reduceLE, Int.reduceLT, Int.reduceToNat, hn, g0, g1, g2, g9, g10, g11, h0']
        refine (takes_x (k := k) hmE hlo P1 hsE hsl).mono ?_
        rintro _ h2 ⟨e2, rfl⟩
        simp only [core, Nat.reduceAdd, Nat.reduceSub, Nat.reduceMul, Nat.reduceLT, Nat.reduceEqDiff, reduceCtorEq, Nat.reduceLeDiff, Int.reduceLE, Int.reduceLT, Int.reduceToNat, hn, g0, g1, g2, g9, g10, g11]
        exact ⟨E1.step e2, by rw [hT]; rfl⟩
    · have h0' : (a < 0) = True := by simp only [eq_iff_iff, iff_true]; omega
      rw [if_neg h0] at hD
      simp only [core, Nat.reduceAdd, Nat.reduceSub, Nat.reduceMul, Nat.reduceLT, Nat.reduceEqDiff, reduceCtorEq, Nat.reduceLeDiff, Int.reduceLE, Int.reduceLT, Int.reduceToNat, hn, g0, g1, g2, g9, g10, g11, h0', LP1, l1, chC]
      refine (bucket_x a (hm.ext E1 (Nat.le_refl _)) hl hbs).mono ?_
      rintro _ h2 ⟨e2, va, vw, rfl, b1, b2⟩
      have o4 := b1.one
      have o5 := b2.one
      have E2 := E1.step e2
      simp only [core, Nat.reduceAdd, Nat.reduceSub, Nat.reduceMul, Nat.reduceLT, Nat.reduceEqDiff, reduceCtorEq, Nat.reduceLeDiff, Int.reduceLE, Int.reduceLT, Int.reduceToNat, hn, g0, g1, g2, g9, g10, g11, bktV, o4, o5]
      obtain ⟨h3, hh3⟩ : ∃ h3, h3 = h2.push (.cells [.lit (.int .i64 (bucketG m a).id), .lit (.int .i64 (bucketG m a).kind), va, vw] 92) := ⟨_, rfl⟩
      have e3 : Ext h2.n h2 h3 := hh3 ▸ (Ext.refl _ _).push _ (Nat.le_refl _)
      have B3 : h3.at h2.n = some (.cells [.lit (.int .i64 (bucketG m a).id), .lit (.int .i64 (bucketG m a).kind), va, vw] 92) := hh3 ▸ at_push_n _ _
      have LB3 := ld_at (T := tabOf Try.prog NT0) B3
      have lb3 := at_lt B3
      rw [← hh3]
      clear hh3
      have E3 := E2.step e3
      have P3 := (E3.2 _ lp).trans hp
      have LP3 := ld_at (T := tabOf Try.prog NT0) P3
      have l3 := at_lt P3
      have c3 := b1.ext e3 (Nat.le_refl _)
      have c4 := b2.ext e3 (Nat.le_refl _)
      refine WB_cut (fun t h' => h' = h3 ∧ t.n = 88 ∧ t.get 0 = .ptr p 0 ∧ t.get 1 = .lit (.int .i64 at0) ∧ t.get 2 = .lit (.int .i64 r) ∧ t.get 9 = .lit (.int .i64 a) ∧ t.get 10 = .lit (.int .i64 dm) ∧ t.get 11 = .lit (.bool hv) ∧ t.get 12 = .ptr h2.n 0 ∧ t.get 52 = .lit (.bool (hitF m at0 a hv))) (fun k' K' hk => ?_) ?_
      · rw [WB_regionD [0, 1, 2, 3, 4, 5, 6, 7, 8, 9, 10, 11, 12, 13, 14, 15, 16, 17, 18, 19, 20, 21, 22, 23, 24] 69617315882342504562567840841288315750640570987166138686464120633385435005909810912804776464491386479444954425742356428750360449267437331138830941716010092468283243943582678247324426174464 (by kernel_rfl)]
        cases hv with
        | true =>
          repeat (first | ((with_reducible refine WDM_cons ?_; simp only [dw1]; try simp only [dw2, Nat.reduceAdd, Nat.reduceMul, Nat.reduceShiftRight, Nat.reduceMod, Nat.reduceEqDiff]); simp only [core, Nat.reduceAdd, Nat.reduceSub, Nat.reduceMul, Nat.reduceLT, Nat.reduceEqDiff, reduceCtorEq, Nat.reduceLeDiff, Int.reduceLE, Int.reduceLT, Int.reduceToNat, cored, hn, g0, g1, g2, g9, g10, g11, LP3, l3, LB3, lb3]) | simp only [core, Nat.reduceAdd, Nat.reduceSub, Nat.reduceMul, Nat.reduceLT, Nat.reduceEqDiff, reduceCtorEq, Nat.reduceLeDiff, Int.reduceLE, Int.reduceLT, Int.reduceToNat, cored, hn, g0, g1, g2, g9, g10, g11, LP3, l3, LB3, lb3])
          refine hk _ _ ⟨rfl, ?_⟩
          simp only [core, Nat.reduceAdd, Nat.reduceSub, Nat.reduceMul, Nat.reduceLT, Nat.reduceEqDiff, reduceCtorEq, Nat.reduceLeDiff, Int.reduceLE, Int.reduceLT, Int.reduceToNat, hn, g0, g1, g2, g9, g10, g11]
          rfl
        | false =>
          by_cases c1 : 0 < m.leaf
          · cases c2 : ((bucketG m a).kind == m.leaf) with
            | false =>
              repeat (first | ((with_reducible refine WDM_cons ?_; simp only [dw1]; try simp only [dw2, Nat.reduceAdd, Nat.reduceMul, Nat.reduceShiftRight, Nat.reduceMod, Nat.reduceEqDiff]); simp only [core, Nat.reduceAdd, Nat.reduceSub, Nat.reduceMul, Nat.reduceLT, Nat.reduceEqDiff, reduceCtorEq, Nat.reduceLeDiff, Int.reduceLE, Int.reduceLT, Int.reduceToNat, cored, hn, g0, g1, g2, g9, g10, g11, LP3, l3, LB3, lb3, c1, c2]) | simp only [core, Nat.reduceAdd, Nat.reduceSub, Nat.reduceMul, Nat.reduceLT, Nat.reduceEqDiff, reduceCtorEq, Nat.reduceLeDiff, Int.reduceLE, Int.reduceLT, Int.reduceToNat, cored, hn, g0, g1, g2, g9, g10, g11, LP3, l3, LB3, lb3, c1, c2])
              refine hk _ _ ⟨rfl, ?_⟩
              simp only [core, Nat.reduceAdd, Nat.reduceSub, Nat.reduceMul, Nat.reduceLT, Nat.reduceEqDiff, reduceCtorEq, Nat.reduceLeDiff, Int.reduceLE, Int.reduceLT, Int.reduceToNat, hn, g0, g1, g2, g9, g10, g11]
              unfold hitF
              rw [c2, Bool.and_false]
              rfl
            | true =>
              cases c3 : (a != at0) with
              | false =>
                repeat (first | ((with_reducible refine WDM_cons ?_; simp only [dw1]; try simp only [dw2, Nat.reduceAdd, Nat.reduceMul, Nat.reduceShiftRight, Nat.reduceMod, Nat.reduceEqDiff]); simp only [core, Nat.reduceAdd, Nat.reduceSub, Nat.reduceMul, Nat.reduceLT, Nat.reduceEqDiff, reduceCtorEq, Nat.reduceLeDiff, Int.reduceLE, Int.reduceLT, Int.reduceToNat, cored, hn, g0, g1, g2, g9, g10, g11, LP3, l3, LB3, lb3, c1, c2, c3]) | simp only [core, Nat.reduceAdd, Nat.reduceSub, Nat.reduceMul, Nat.reduceLT, Nat.reduceEqDiff, reduceCtorEq, Nat.reduceLeDiff, Int.reduceLE, Int.reduceLT, Int.reduceToNat, cored, hn, g0, g1, g2, g9, g10, g11, LP3, l3, LB3, lb3, c1, c2, c3])
                refine hk _ _ ⟨rfl, ?_⟩
                simp only [core, Nat.reduceAdd, Nat.reduceSub, Nat.reduceMul, Nat.reduceLT, Nat.reduceEqDiff, reduceCtorEq, Nat.reduceLeDiff, Int.reduceLE, Int.reduceLT, Int.reduceToNat, hn, g0, g1, g2, g9, g10, g11]
                unfold hitF
                rw [c3, Bool.and_false]
              | true =>
                repeat (first | ((with_reducible refine WDM_cons ?_; simp only [dw1]; try simp only [dw2, Nat.reduceAdd, Nat.reduceMul, Nat.reduceShiftRight, Nat.reduceMod, Nat.reduceEqDiff]); simp only [core, Nat.reduceAdd, Nat.reduceSub, Nat.reduceMul, Nat.reduceLT, Nat.reduceEqDiff, reduceCtorEq, Nat.reduceLeDiff, Int.reduceLE, Int.reduceLT, Int.reduceToNat, cored, hn, g0, g1, g2, g9, g10, g11, LP3, l3, LB3, lb3, c1, c2, c3]) | simp only [core, Nat.reduceAdd, Nat.reduceSub, Nat.reduceMul, Nat.reduceLT, Nat.reduceEqDiff, reduceCtorEq, Nat.reduceLeDiff, Int.reduceLE, Int.reduceLT, Int.reduceToNat, cored, hn, g0, g1, g2, g9, g10, g11, LP3, l3, LB3, lb3, c1, c2, c3])
                refine hk _ _ ⟨rfl, ?_⟩
                simp only [core, Nat.reduceAdd, Nat.reduceSub, Nat.reduceMul, Nat.reduceLT, Nat.reduceEqDiff, reduceCtorEq, Nat.reduceLeDiff, Int.reduceLE, Int.reduceLT, Int.reduceToNat, hn, g0, g1, g2, g9, g10, g11]
                unfold hitF
                rw [c2, c3, decide_eq_true c1]
                rfl
          · repeat (first | ((with_reducible refine WDM_cons ?_; simp only [dw1]; try simp only [dw2, Nat.reduceAdd, Nat.reduceMul, Nat.reduceShiftRight, Nat.reduceMod, Nat.reduceEqDiff]); simp only [core, Nat.reduceAdd, Nat.reduceSub, Nat.reduceMul, Nat.reduceLT, Nat.reduceEqDiff, reduceCtorEq, Nat.reduceLeDiff, Int.reduceLE, Int.reduceLT, Int.reduceToNat, cored, hn, g0, g1, g2, g9, g10, g11, LP3, l3, LB3, lb3, c1]) | simp only [core, Nat.reduceAdd, Nat.reduceSub, Nat.reduceMul, Nat.reduceLT, Nat.reduceEqDiff, reduceCtorEq, Nat.reduceLeDiff, Int.reduceLE, Int.reduceLT, Int.reduceToNat, cored, hn, g0, g1, g2, g9, g10, g11, LP3, l3, LB3, lb3, c1])
            refine hk _ _ ⟨rfl, ?_⟩
            simp only [core, Nat.reduceAdd, Nat.reduceSub, Nat.reduceMul, Nat.reduceLT, Nat.reduceEqDiff, reduceCtorEq, Nat.reduceLeDiff, Int.reduceLE, Int.reduceLT, Int.reduceToNat, hn, g0, g1, g2, g9, g10, g11]
            unfold hitF
            rw [decide_eq_false c1]
            rfl
      rintro t h' ⟨rfl, hn, g0, g1, g2, g9, g10, g11, g12, g52⟩
      have hq3 := hq.ext E3 (Nat.le_refl _)
      obtain ⟨ht, hht⟩ : ∃ ht, ht = hitF m at0 a hv := ⟨_, rfl⟩
      rw [← hht] at g52 hD
      by_cases hret : (ht && ds.contains a) = true
      · rw [if_pos hret] at hD
        have hT : tryC m at0 x r os ds = (0, 0, false) := by
          unfold tryC
          rw [← hD]
        simp only [Bool.and_eq_true] at hret
        obtain ⟨rfl, hca⟩ := hret
        simp only [core, Nat.reduceAdd, Nat.reduceSub, Nat.reduceMul, Nat.reduceLT, Nat.reduceEqDiff, reduceCtorEq, Nat.reduceLeDiff, Int.reduceLE, Int.reduceLT, Int.reduceToNat, hn, g0, g1, g2, g9, g10, g11, g12, g52, LP3, l3]
        refine (contains_x a hq3 (by omega)).mono ?_
        rintro _ h4 ⟨rfl, rfl⟩
        simp only [core, Nat.reduceAdd, Nat.reduceSub, Nat.reduceMul, Nat.reduceLT, Nat.reduceEqDiff, reduceCtorEq, Nat.reduceLeDiff, Int.reduceLE, Int.reduceLT, Int.reduceToNat, hn, g0, g1, g2, g9, g10, g11, g12, g52, hca]
        exact ⟨E3, by rw [hT]; rfl⟩
      rw [if_neg hret] at hD
      refine WB_cut (fun t h4 => h4 = h' ∧ t.n = 88 ∧ t.get 0 = .ptr p 0 ∧ t.get 1 = .lit (.int .i64 at0) ∧ t.get 2 = .lit (.int .i64 r) ∧ t.get 9 = .lit (.int .i64 a) ∧ t.get 10 = .lit (.int .i64 (if ht then a else dm)) ∧ t.get 11 = .lit (.bool (hv || ht)) ∧ t.get 12 = .ptr h2.n 0) (fun k' K' hk => ?_) ?_
      · cases ht with
        | false =>
          simp only [core, Nat.reduceAdd, Nat.reduceSub, Nat.reduceMul, Nat.reduceLT, Nat.reduceEqDiff, reduceCtorEq, Nat.reduceLeDiff, Int.reduceLE, Int.reduceLT, Int.reduceToNat, hn, g0, g1, g2, g9, g10, g11, g12, g52]
          refine hk _ _ ⟨rfl, ?_⟩
          simp only [core, Nat.reduceAdd, Nat.reduceSub, Nat.reduceMul, Nat.reduceLT, Nat.reduceEqDiff, reduceCtorEq, Nat.reduceLeDiff, Int.reduceLE, Int.reduceLT, Int.reduceToNat, hn, g0, g1, g2, g9, g10, g11, g12, g52, Bool.or_false]
        | true =>
          have hca : ds.contains a = false := by
            cases hcc : ds.contains a with
            | false => rfl
            | true => exact absurd (by rw [hcc]; rfl) hret
          simp only [core, Nat.reduceAdd, Nat.reduceSub, Nat.reduceMul, Nat.reduceLT, Nat.reduceEqDiff, reduceCtorEq, Nat.reduceLeDiff, Int.reduceLE, Int.reduceLT, Int.reduceToNat, hn, g0, g1, g2, g9, g10, g11, g12, g52, LP3, l3]
          refine (contains_x a hq3 (by omega)).mono ?_
          rintro _ h4 ⟨rfl, rfl⟩
          simp only [core, Nat.reduceAdd, Nat.reduceSub, Nat.reduceMul, Nat.reduceLT, Nat.reduceEqDiff, reduceCtorEq, Nat.reduceLeDiff, Int.reduceLE, Int.reduceLT, Int.reduceToNat, hn, g0, g1, g2, g9, g10, g11, g12, g52, hca]
          refine hk _ _ ⟨rfl, ?_⟩
          simp only [core, Nat.reduceAdd, Nat.reduceSub, Nat.reduceMul, Nat.reduceLT, Nat.reduceEqDiff, reduceCtorEq, Nat.reduceLeDiff, Int.reduceLE, Int.reduceLT, Int.reduceToNat, hn, g0, g1, g2, g9, g10, g11, g12, g52, Bool.or_true]
      rintro t h4 ⟨rfl, hn, g0, g1, g2, g9, g10, g11, g12⟩
      simp only [core, Nat.reduceAdd, Nat.reduceSub, Nat.reduceMul, Nat.reduceLT, Nat.reduceEqDiff, reduceCtorEq, Nat.reduceLeDiff, Int.reduceLE, Int.reduceLT, Int.reduceToNat, hn, g0, g1, g2, g9, g10, g11, g12]
      have hG : ∀ b, bucketF m a = some b → bucketG m a = b := fun b hb => by unfold bucketG; rw [hb]; rfl
      have hGl : (bucketG m a).items.length * 8 ≤ 140737488351232 := by
        cases hb : bucketF m a with
        | none => unfold bucketG; rw [hb]; decide
        | some b => rw [hG b hb]; exact (hbs b (List.mem_of_find?_eq_some hb)).1
      rw [WB_regionD [0, 1, 2, 3, 4, 5, 6, 7, 8, 9, 10, 11, 12, 13, 14] 26958506803583283964102506241650125051416736049585717655372279349248 (by kernel_rfl)]
      have z1 := c3.isSl
      have z2 := c3.lenD
      have z3 := c4.isSl
      repeat ((with_reducible refine WDM_cons ?_; simp only [dw1]; try simp only [dw2, Nat.reduceAdd, Nat.reduceMul, Nat.reduceShiftRight, Nat.reduceMod, Nat.reduceEqDiff]); simp only [core, Nat.reduceAdd, Nat.reduceSub, Nat.reduceMul, Nat.reduceLT, Nat.reduceEqDiff, reduceCtorEq, Nat.reduceLeDiff, Int.reduceLE, Int.reduceLT, Int.reduceToNat, cored, hn, g0, g1, g2, g9, g10, g11, g12, LP3, l3, LB3, lb3, z1, z2, z3])
      refine (choose_x x r c3 c4 (by omega)).mono ?_
      rintro _ h5 ⟨e5, rfl⟩
      have E5 := E3.step e5
      have B5 := (e5.2 _ lb3).trans B3
      have LB5 := ld_at (T := tabOf Try.prog NT0) B5
      have lb5 := at_lt B5
      have c5 := c3.ext e5 (Nat.le_refl _)
      cases hch : chooseF (bucketG m a).items (bucketG m a).weights x r with
      | none =>
        rw [hch] at hD
        have hT : tryC m at0 x r os ds = (0, 0, false) := by
          unfold tryC
          rw [← hD]
        repeat ((with_reducible refine WDM_cons ?_; simp only [dw1]; try simp only [dw2, Nat.reduceAdd, Nat.reduceMul, Nat.reduceShiftRight, Nat.reduceMod, Nat.reduceEqDiff]); simp only [core, Nat.reduceAdd, Nat.reduceSub, Nat.reduceMul, Nat.reduceLT, Nat.reduceEqDiff, reduceCtorEq, Nat.reduceLeDiff, Int.reduceLE, Int.reduceLT, Int.reduceToNat, cored, hn, g0, g1, g2, g9, g10, g11, g12, chooseV, pairV])
        exact ⟨E5, by rw [hT]; rfl⟩
      | some i =>
        obtain ⟨hi, -⟩ := chooseF_lt hch
        rw [hch] at hD
        obtain ⟨b, hb⟩ : ∃ b, bucketF m a = some b := by
          cases hb : bucketF m a with
          | none =>
            unfold bucketG at hi
            rw [hb] at hi
            exact absurd hi (Nat.not_lt_zero _)
          | some b => exact ⟨b, rfl⟩
        have hGb := hG b hb
        obtain ⟨u1, u2, u3, u4, u5, u6, u7, u8⟩ := good_bkt hg hb
        have hkb := kind_bkt (by omega : a < 0) hb
        obtain ⟨y1, y2⟩ := u7 i (by rw [← hGb]; exact hi)
        have hlda := c5.int (T := tabOf Try.prog NT0) (e := 3) (by kernel_rfl) (by kernel_rfl) hi
        repeat ((with_reducible refine WDM_cons ?_; simp only [dw1]; try simp only [dw2, Nat.reduceAdd, Nat.reduceMul, Nat.reduceShiftRight, Nat.reduceMod, Nat.reduceEqDiff]); simp only [core, Nat.reduceAdd, Nat.reduceSub, Nat.reduceMul, Nat.reduceLT, Nat.reduceEqDiff, reduceCtorEq, Nat.reduceLeDiff, Int.reduceLE, Int.reduceLT, Int.reduceToNat, cored, hn, g0, g1, g2, g9, g10, g11, g12, chooseV, pairV, LB5, lb5, z1, z2, hi, hlda])
        refine ih n _ _ ⟨_, _, _, E5, ?_, ?_, hD, ?_⟩ (by omega)
        · rw [hGb] at *; omega
        · rw [hGb] at *; omega
        · simp only [core, Nat.reduceAdd, Nat.reduceSub, Nat.reduceMul, Nat.reduceLT, Nat.reduceEqDiff, reduceCtorEq, Nat.reduceLeDiff, Int.reduceLE, Int.reduceLT, Int.reduceToNat, hn, g0, g1, g2, g9, g10, g11, g12]
  · refine ⟨at0, 0, false, Ext.refl _ _, by omega, by omega, rfl, ?_⟩
    simp only [core, Nat.reduceAdd, Nat.reduceSub, Nat.reduceMul, Nat.reduceLT, Nat.reduceEqDiff, reduceCtorEq, Nat.reduceLeDiff, Int.reduceLE, Int.reduceLT, Int.reduceToNat]
end Go.Proofs.Ytkgbeihcepociaa.Ex
end

section

set_option linter.unusedSimpArgs false
set_option linter.unusedVariables false
set_option maxRecDepth 10000
set_option maxHeartbeats 4000000
namespace Go.Proofs.Ytkgbeihcepociaa.Ex
open Go
def pool0 : PoolD := ⟨0, 0, 0, 0⟩
def poolV (p : PoolD) : AV := .agg [.lit (.int .i64 p.id), .lit (.int .i64 p.size), .lit (.int .i64 p.min), .lit (.int .i64 p.pgs)]
def poolF (m : MapD) (id : Int) : Option PoolD := m.pools.find? (fun b => b.id == id)
def poolG (m : MapD) (id : Int) : PoolD := (poolF m id).getD pool0
theorem poolR_x {F : Nat → Prop} {H : AH} {m : MapD} {vo vp vb : AV} (id : Int) (hm : MpAt F H m vo vp vb) (hl : Sm 32 m.pools) :
    WC Try.prog (tabOf Try.prog NT0) S0 100 [mpV m vo vp vb, .lit (.int .i64 id)] H fun r h' => Ext H.n H h' ∧ r = .tup [poolV (poolG m id), .lit (.bool (poolF m id).isSome)] := by
  refine WC_fn Try.func100 rfl rfl ?_
  unfold Sm at hl
  have s1 := hm.p.isSl
  have s2 := hm.p.lenD
  have o1 := hm.o.one
  have o2 := hm.p.one
  have o3 := hm.b.one
  simp only [core, Nat.reduceAdd, Nat.reduceSub, Nat.reduceMul, Nat.reduceLT, Nat.reduceEqDiff, reduceCtorEq, Nat.reduceLeDiff, Int.reduceLE, Int.reduceLT, Int.reduceToNat, Try.ntmps100, mpV, s1, s2, o1, o2, o3]
  obtain ⟨h2, hh2⟩ : ∃ h2, h2 = (H.push (.cells [.lit (.int .i64 m.epoch), vo, vp, vb, .lit (.int .i64 m.leaf)] 31)).push (.cells [.lit (.int .i64 0), .lit (.int .i64 0), .lit (.int .i64 0), .lit (.int .i64 0)] 94) := ⟨_, rfl⟩
  have E0 : Ext H.n H h2 := hh2 ▸ ((Ext.refl _ _).push _ (Nat.le_refl _)).push _ (by rw [n_push]; omega)
  have A0 : h2.at (H.n + 1) = some (.cells [.lit (.int .i64 0), .lit (.int .i64 0), .lit (.int .i64 0), .lit (.int .i64 0)] 94) := hh2 ▸ at_push_n _ _
  have n2 : h2.n = H.n + 2 := by rw [hh2, n_push, n_push]
  rw [← hh2]
  clear hh2
  refine WB_for m.pools.length (fun i t h => Ext h2.n h2 h ∧ poolF m id = (m.pools.drop i).find? (fun b => b.id == id) ∧ t.n = 22 ∧ t.get 1 = .lit (.int .i64 id) ∧ t.get 4 = .ptr (H.n + 1) 0 ∧ t.get 9 = vp ∧ t.get 10 = .lit (.int .i64 m.pools.length) ∧ t.get 11 = .lit (.int .i64 i)) ?_ ?_ _ _ ?_
  · rintro i t h hlt hc ⟨he, hf, hn, g1, g4, g9, g10, g11⟩ ih
    obtain ⟨x, hx⟩ : ∃ x, m.pools[i]? = some x := ⟨_, List.getElem?_eq_getElem hlt⟩
    have E1 : Ext H.n H h := E0.trans (he.mono (by omega))
    obtain ⟨c, hc1, hld, hld0⟩ := hm.p.atE (T := tabOf Try.prog NT0) E1 RPool_z hx
    obtain ⟨rfl, -⟩ := RPool_is.1 hc1
    have hws := wrap_succ hlt (by omega)
    rw [find_drop hx] at hf
    have A1 := (he.2 _ (by omega)).trans A0
    have l1 : H.n + 1 < h.n := at_lt A1
    simp only [core, Nat.reduceAdd, Nat.reduceSub, Nat.reduceMul, Nat.reduceLT, Nat.reduceEqDiff, reduceCtorEq, Nat.reduceLeDiff, Int.reduceLE, Int.reduceLT, Int.reduceToNat, s1, s2, hn, g1, g4, g9, g10, g11, hlt, hc, hld, hld0, hws]
    refine ⟨fun hq => ?_, fun hq => ?_⟩
    · rw [if_pos hq] at hf
      have hG : poolG m id = x := by unfold poolG; rw [hf]; rfl
      simp only [core, Nat.reduceAdd, Nat.reduceSub, Nat.reduceMul, Nat.reduceLT, Nat.reduceEqDiff, reduceCtorEq, Nat.reduceLeDiff, Int.reduceLE, Int.reduceLT, Int.reduceToNat, hn, g1, g4, g9, g10, g11, A1, l1]
      refine ⟨(E1.put _ (by omega)).push _ (by rw [n_put]; omega), ?_⟩
      rw [hG, hf]
      rfl
    · rw [if_neg (by rw [hq]; decide)] at hf
      refine ih _ _ ⟨he.push _ he.1, hf, ?_⟩
      simp only [core, Nat.reduceAdd, Nat.reduceSub, Nat.reduceMul, Nat.reduceLT, Nat.reduceEqDiff, reduceCtorEq, Nat.reduceLeDiff, Int.reduceLE, Int.reduceLT, Int.reduceToNat, hn, g1, g4, g9, g10, g11]
  · rintro t h hc ⟨he, hf, hn, g1, g4, g9, g10, g11⟩
    have A1 := (he.2 _ (by omega)).trans A0
    have l1 : H.n + 1 < h.n := at_lt A1
    have E1 : Ext H.n H h := E0.trans (he.mono (by omega))
    have hf : poolF m id = none := by rw [hf, List.drop_length]; rfl
    have hG : poolG m id = pool0 := by unfold poolG; rw [hf]; rfl
    simp only [core, Nat.reduceAdd, Nat.reduceSub, Nat.reduceMul, Nat.reduceLT, Nat.reduceEqDiff, reduceCtorEq, Nat.reduceLeDiff, Int.reduceLE, Int.reduceLT, Int.reduceToNat, s1, s2, hn, g1, g4, g9, g10, g11, hc, A1, l1, bdM, fillA]
    rw [hG, hf]
    exact ⟨E1.put _ (by omega), rfl⟩
  · simp only [core, Nat.reduceAdd, Nat.reduceSub, Nat.reduceMul, Nat.reduceLT, Nat.reduceEqDiff, reduceCtorEq, Nat.reduceLeDiff, Int.reduceLE, Int.reduceLT, Int.reduceToNat]
    refine ⟨Ext.refl _ _, rfl, ?_⟩
    (repeat' apply And.intro) <;> first | rfl | trivial
theorem pool_x {F : Nat → Prop} {H : AH} {m : MapD} {vo vp vb : AV} (id : Int) (hm : MpAt F H m vo vp vb) (hl : Sm 32 m.pools) :
    WC Try.prog (tabOf Try.prog NT0) S0 93 [mpV m vo vp vb, .lit (.int .i64 id)] H fun r h' => Ext H.n H h' ∧ r = .tup [poolV (poolG m id), .lit (.bool (poolF m id).isSome)] := by
  refine WC_fn Try.func93 rfl rfl ?_
  unfold Sm at hl
  have s1 := hm.p.isSl
  have s2 := hm.p.lenD
  have o1 := hm.o.one
  have o2 := hm.p.one
  have o3 := hm.b.one
  simp only [core, Nat.reduceAdd, Nat.reduceSub, Nat.reduceMul, Nat.reduceLT, Nat.reduceEqDiff, reduceCtorEq, Nat.reduceLeDiff, Int.reduceLE, Int.reduceLT, Int.reduceToNat, Try.ntmps93, mpV, s1, s2, o1, o2, o3]
  obtain ⟨h2, hh2⟩ : ∃ h2, h2 = (H.push (.cells [.lit (.int .i64 m.epoch), vo, vp, vb, .lit (.int .i64 m.leaf)] 31)).push (.cells [.lit (.int .i64 0), .lit (.int .i64 0), .lit (.int .i64 0), .lit (.int .i64 0)] 94) := ⟨_, rfl⟩
  have E0 : Ext H.n H h2 := hh2 ▸ ((Ext.refl _ _).push _ (Nat.le_refl _)).push _ (by rw [n_push]; omega)
  have A0 : h2.at (H.n + 1) = some (.cells [.lit (.int .i64 0), .lit (.int .i64 0), .lit (.int .i64 0), .lit (.int .i64 0)] 94) := hh2 ▸ at_push_n _ _
  have B0 : h2.at H.n = some (.cells [.lit (.int .i64 m.epoch), vo, vp, vb, .lit (.int .i64 m.leaf)] 31) := hh2 ▸ (at_push_lt _ (by rw [n_push]; omega)).trans (at_push_n _ _)
  have n2 : h2.n = H.n + 2 := by rw [hh2, n_push, n_push]
  rw [← hh2]
  clear hh2
  refine WB_for m.pools.length (fun i t h => Ext h2.n h2 h ∧ poolF m id = (m.pools.drop i).find? (fun b => b.id == id) ∧ t.n = 28 ∧ t.get 1 = .lit (.int .i64 id) ∧ t.get 2 = .ptr H.n 0 ∧ t.get 4 = .ptr (H.n + 1) 0 ∧ t.get 9 = .lit (.int .i64 m.pools.length) ∧ t.get 10 = .lit (.int .i64 i)) ?_ ?_ _ _ ?_
  · rintro i t h hlt hc ⟨he, hf, hn, g1, g2, g4, g9, g10⟩ ih
    obtain ⟨x, hx⟩ : ∃ x, m.pools[i]? = some x := ⟨_, List.getElem?_eq_getElem hlt⟩
    have E1 : Ext H.n H h := E0.trans (he.mono (by omega))
    obtain ⟨c, hc1, hld, hld0⟩ := hm.p.atE (T := tabOf Try.prog NT0) E1 RPool_z hx
    obtain ⟨rfl, -⟩ := RPool_is.1 hc1
    have hws := wrap_succ hlt (by omega)
    rw [find_drop hx] at hf
    have A1 := (he.2 _ (by omega)).trans A0
    have l1 : H.n + 1 < h.n := at_lt A1
    have B1 := (he.2 _ (by omega)).trans B0
    have LB1 := ld_at (T := tabOf Try.prog NT0) B1
    simp only [core, Nat.reduceAdd, Nat.reduceSub, Nat.reduceMul, Nat.reduceLT, Nat.reduceEqDiff, reduceCtorEq, Nat.reduceLeDiff, Int.reduceLE, Int.reduceLT, Int.reduceToNat, s1, s2, hn, g1, g2, g4, g9, g10, hlt, hc, hld, hld0, hws, LB1]
    refine ⟨fun hq => ?_, fun hq => ?_⟩
    · rw [if_pos hq] at hf
      have hG : poolG m id = x := by unfold poolG; rw [hf]; rfl
      simp only [core, Nat.reduceAdd, Nat.reduceSub, Nat.reduceMul, Nat.reduceLT, Nat.reduceEqDiff, reduceCtorEq, Nat.reduceLeDiff, Int.reduceLE, Int.reduceLT, Int.reduceToNat, hn, g1, g2, g4, g9, g10, A1, l1]
      refine ⟨E1.put _ (by omega), ?_⟩
      rw [hG, hf]
      rfl
    · rw [if_neg (by rw [hq]; decide)] at hf
      refine ih _ _ ⟨he, hf, ?_⟩
      simp only [core, Nat.reduceAdd, Nat.reduceSub, Nat.reduceMul, Nat.reduceLT, Nat.reduceEqDiff, reduceCtorEq, Nat.reduceLeDiff, Int.reduceLE, Int.reduceLT, Int.reduceToNat, hn, g1, g2, g4, g9, g10]
  · rintro t h hc ⟨he, hf, hn, g1, g2, g4, g9, g10⟩
    have A1 := (he.2 _ (by omega)).trans A0
    have l1 : H.n + 1 < h.n := at_lt A1
    have E1 : Ext H.n H h := E0.trans (he.mono (by omega))
    have hf : poolF m id = none := by rw [hf, List.drop_length]; rfl
    have hG : poolG m id = pool0 := by unfold poolG; rw [hf]; rfl
    simp only [core, Nat.reduceAdd, Nat.reduceSub, Nat.reduceMul, Nat.reduceLT, Nat.reduceEqDiff, reduceCtorEq, Nat.reduceLeDiff, Int.reduceLE, Int.reduceLT, Int.reduceToNat, s1, s2, hn, g1, g2, g4, g9, g10, hc, A1, l1, bdM, fillA]
    rw [hG, hf]
    exact ⟨E1.put _ (by omega), rfl⟩
  · simp only [core, Nat.reduceAdd, Nat.reduceSub, Nat.reduceMul, Nat.reduceLT, Nat.reduceEqDiff, reduceCtorEq, Nat.reduceLeDiff, Int.reduceLE, Int.reduceLT, Int.reduceToNat]
    refine ⟨Ext.refl _ _, rfl, ?_⟩
    (repeat' apply And.intro) <;> first | rfl | trivial
def ableO (o : OsdD) : Bool := o.ex && o.up && decide (0 < o.weight)
def ableF (m : MapD) (osd : Int) : Bool := if 0 ≤ osd then (match m.osds[osd.toNat]? with | some o => ableO o | none => false) else false
theorem able_x {F : Nat → Prop} {H : AH} {m : MapD} {vo vp vb : AV} (osd : Int) (hm : MpAt F H m vo vp vb) (hl : Sm 40 m.osds) :
    WC Try.prog (tabOf Try.prog NT0) S0 97 [mpV m vo vp vb, .lit (.int .i64 osd)] H fun r h' => Ext H.n H h' ∧ r = .lit (.bool (ableF m osd)) := by
  refine WC_fn Try.func97 rfl rfl ?_
  unfold Sm at hl
  have s1 := hm.o.isSl
  have s2 := hm.o.lenD
  have o1 := hm.o.one
  have o2 := hm.p.one
  have o3 := hm.b.one
  have EP : ∀ x, Ext H.n H (H.push x) := fun x => (Ext.refl _ _).push _ (Nat.le_refl _)
  by_cases h0 : osd < 0
  · simp only [core, Nat.reduceAdd, Nat.reduceSub, Nat.reduceMul, Nat.reduceLT, Nat.reduceEqDiff, reduceCtorEq, Nat.reduceLeDiff, Int.reduceLE, Int.reduceLT, Int.reduceToNat, Try.ntmps97, mpV, o1, o2, o3, s1, s2, h0]
    refine ⟨EP _, ?_⟩
    unfold ableF
    rw [if_neg (by omega)]
  obtain ⟨k, rfl⟩ : ∃ k : Nat, osd = (k : Int) := ⟨osd.toNat, by omega⟩
  simp only [core, Nat.reduceAdd, Nat.reduceSub, Nat.reduceMul, Nat.reduceLT, Nat.reduceEqDiff, reduceCtorEq, Nat.reduceLeDiff, Int.reduceLE, Int.reduceLT, Int.reduceToNat, Try.ntmps97, mpV, o1, o2, o3, s1, s2, h0]
  refine ⟨fun hq => ?_, fun hq => ?_⟩
  · refine ⟨EP _, ?_⟩
    have : m.osds[k]? = none := List.getElem?_eq_none (by have := of_decide_eq_true hq; omega)
    unfold ableF
    rw [if_pos (by omega), Int.toNat_natCast, this]
  have hk : k < m.osds.length := by have := of_decide_eq_false hq; omega
  obtain ⟨o, ho⟩ : ∃ o, m.osds[k]? = some o := ⟨_, List.getElem?_eq_getElem hk⟩
  have hres : ableF m (k : Int) = ableO o := by unfold ableF; rw [if_pos (by omega), Int.toNat_natCast, ho]
  obtain ⟨c, hc1, hld, hld0⟩ := hm.o.atE (T := tabOf Try.prog NT0) (EP (.cells [.lit (.int .i64 m.epoch), vo, vp, vb, .lit (.int .i64 m.leaf)] 31)) ROsd_z ho
  obtain ⟨rfl, -⟩ := ROsd_is.1 hc1
  have EA : ∀ y, Ext H.n H ((H.push (.cells [.lit (.int .i64 m.epoch), vo, vp, vb, .lit (.int .i64 m.leaf)] 31)).push y) := fun y => (EP _).push _ (by rw [n_push]; omega)
  unfold ableO at hres
  cases hex : o.ex with
  | false =>
    simp only [core, Nat.reduceAdd, Nat.reduceSub, Nat.reduceMul, Nat.reduceLT, Nat.reduceEqDiff, reduceCtorEq, Nat.reduceLeDiff, Int.reduceLE, Int.reduceLT, Int.reduceToNat, s1, s2, hk, hld, hld0, hex]
    exact ⟨EA _, by rw [hres, hex]; rfl⟩
  | true =>
  cases hup : o.up with
  | false =>
    simp only [core, Nat.reduceAdd, Nat.reduceSub, Nat.reduceMul, Nat.reduceLT, Nat.reduceEqDiff, reduceCtorEq, Nat.reduceLeDiff, Int.reduceLE, Int.reduceLT, Int.reduceToNat, s1, s2, hk, hld, hld0, hex, hup]
    exact ⟨EA _, by rw [hres, hex, hup]; rfl⟩
  | true =>
    simp only [core, Nat.reduceAdd, Nat.reduceSub, Nat.reduceMul, Nat.reduceLT, Nat.reduceEqDiff, reduceCtorEq, Nat.reduceLeDiff, Int.reduceLE, Int.reduceLT, Int.reduceToNat, s1, s2, hk, hld, hld0, hex, hup]
    exact ⟨EA _, by rw [hres, hex, hup]; rfl⟩
end Go.Proofs.Ytkgbeihcepociaa.Ex
end

section

set_option linter.unusedSimpArgs false
set_option linter.unusedVariables false
namespace Go.Proofs.Ytkgbeihcepociaa.Ex
open Go
theorem kind_neg {m : MapD} (hg : goodF m = true) {w : Int} (hw : w < 0) (h0 : 0 ≤ kindF m w) : ∃ b, bucketF m w = some b ∧ kindF m w = b.kind ∧ 1 ≤ b.kind := by
  cases hb : bucketF m w with
  | none =>
    unfold kindF at h0
    rw [if_neg (by omega), hb] at h0
    exact absurd h0 (by simp)
  | some b => exact ⟨b, rfl, kind_bkt hw hb, (good_bkt hg hb).2.2.1⟩
theorem kind_none {m : MapD} (hg : goodF m = true) {w : Int} (hw : w < 0) (h0 : kindF m w ≤ 0) : bucketF m w = none := by
  cases hb : bucketF m w with
  | none => rfl
  | some b =>
    have := kind_bkt hw hb
    have := (good_bkt hg hb).2.2.1
    omega
theorem choose_none {m : MapD} {a x r : Int} (hb : bucketF m a = none) : chooseF (bucketG m a).items (bucketG m a).weights x r = none := by
  have hG : bucketG m a = bkt0 := by unfold bucketG; rw [hb]; rfl
  rw [hG]
  cases hc : chooseF bkt0.items bkt0.weights x r with
  | none => rfl
  | some i => exact absurd (chooseF_lt hc).1 (Nat.not_lt_zero _)
theorem item_kind {m : MapD} (hg : goodF m = true) {a x r : Int} {b : BktD} {i : Nat} (hb : bucketF m a = some b) (hc : chooseF b.items b.weights x r = some i) : 0 ≤ kindF m (b.items.getD i 0) ∧ kindF m (b.items.getD i 0) < b.kind :=
  (good_bkt hg hb).2.2.2.2.2.2.1 i (chooseF_lt hc).1
theorem hit_true {m : MapD} {at0 a : Int} : hitF m at0 a true = false := by unfold hitF; simp
theorem down_none {m : MapD} {k x r a : Int} (hb : bucketF m a = none) : ∀ (n : Nat), downF m k x r n a = none
  | 0 => rfl
  | n + 1 => by rw [downF, hb]
theorem down_fuel {m : MapD} (hg : goodF m = true) {k x r : Int} : ∀ (n n' : Nat) (a : Int), a < 0 → kindF m a ≤ (n : Int) → kindF m a ≤ (n' : Int) → downF m k x r n a = downF m k x r n' a
  | 0, n', a, ha, h1, _ => by rw [down_none (kind_none hg ha (by simpa using h1)), down_none (kind_none hg ha (by simpa using h1))]
  | n + 1, 0, a, ha, _, h2 => by rw [down_none (kind_none hg ha (by simpa using h2)), down_none (kind_none hg ha (by simpa using h2))]
  | n + 1, n' + 1, a, ha, h1, h2 => by
    cases hb : bucketF m a with
    | none => rw [down_none hb, down_none hb]
    | some b =>
      rw [downF, downF, hb]
      simp only
      cases hc : chooseF b.items b.weights x r with
      | none => rfl
      | some i =>
        simp only
        obtain ⟨q1, q2⟩ := item_kind hg hb hc
        have hk := kind_bkt ha hb
        split
        · rfl
        · rename_i hno
          exact down_fuel hg n n' _ (by omega) (by omega) (by omega)
theorem way_true {m : MapD} (hg : goodF m = true) {at0 x r : Int} {ds : List Int} : ∀ (n : Nat) (a dm : Int), a < 0 → kindF m a ≤ (n : Int) → wayF m at0 x r ds (n + 1) a dm true = (downF m 0 x r n a).map (fun o => (o, dm))
  | 0, a, dm, ha, h1 => by
    have hb := kind_none hg ha (by simpa using h1)
    rw [down_none hb, wayF, if_neg (by omega), hit_true, choose_none hb]
    rfl
  | n + 1, a, dm, ha, h1 => by
    rw [wayF, if_neg (by omega), hit_true]
    cases hb : bucketF m a with
    | none => rw [choose_none hb, down_none hb]; rfl
    | some b =>
      have hG : bucketG m a = b := by unfold bucketG; rw [hb]; rfl
      rw [hG, downF, hb]
      simp only [Bool.false_and, Bool.false_eq_true, if_false, Bool.or_false]
      cases hc : chooseF b.items b.weights x r with
      | none => rfl
      | some i =>
        simp only
        obtain ⟨q1, q2⟩ := item_kind hg hb hc
        have hk := kind_bkt ha hb
        by_cases h0 : 0 ≤ b.items.getD i 0
        · rw [wayF, if_pos h0, if_pos (show 0 ≤ b.items.getD i 0 ∨ kindF m (b.items.getD i 0) = 0 from .inl h0)]
          rfl
        · obtain ⟨b', hb', hk', h1'⟩ := kind_neg hg (by omega) q1
          rw [if_neg (by omega)]
          exact way_true hg n _ dm (by omega) (by omega)
theorem way_false {m : MapD} (hg : goodF m = true) {at0 x r : Int} {ds : List Int} (h3 : kindF m at0 ≤ 3) : ∀ (n : Nat) (a dm : Int), a < 0 → kindF m a ≤ (n : Int) → kindF m a ≤ kindF m at0 → hitF m at0 a false = false →
    wayF m at0 x r ds (n + 1) a dm false = match downF m m.leaf x r n a with
      | none => none
      | some d => if 0 ≤ d then some (d, d) else if ds.contains d then none else (downF m 0 x r 4 d).map (fun o => (o, d))
  | 0, a, dm, ha, h1, _, hh => by
    have hb := kind_none hg ha (by simpa using h1)
    rw [down_none hb, wayF, if_neg (by omega), hh, choose_none hb]
    rfl
  | n + 1, a, dm, ha, h1, h2, hh => by
    rw [wayF, if_neg (by omega), hh]
    cases hb : bucketF m a with
    | none => rw [choose_none hb, down_none hb]; rfl
    | some b =>
      have hG : bucketG m a = b := by unfold bucketG; rw [hb]; rfl
      rw [hG, downF, hb]
      simp only [Bool.false_and, Bool.false_eq_true, if_false, Bool.or_false]
      cases hc : chooseF b.items b.weights x r with
      | none => rfl
      | some i =>
        simp only
        obtain ⟨q1, q2⟩ := item_kind hg hb hc
        have hk := kind_bkt ha hb
        obtain ⟨w, hw⟩ : ∃ w, w = b.items.getD i 0 := ⟨_, rfl⟩
        rw [← hw] at q1 q2 ⊢
        by_cases h0 : 0 ≤ w
        · rw [wayF, if_pos h0, if_pos (show 0 ≤ w ∨ kindF m w = m.leaf from .inl h0)]
          simp only [if_pos h0]
          rfl
        · have hw0 : w < 0 := by omega
          obtain ⟨b', hb', hk', h1'⟩ := kind_neg hg hw0 q1
          have hG' : bucketG m w = b' := by unfold bucketG; rw [hb']; rfl
          by_cases hl : kindF m w = m.leaf
          · have hhit : hitF m at0 w false = true := by
              unfold hitF
              rw [hG']
              have c1 : 0 < m.leaf := by omega
              have c2 : b'.kind = m.leaf := by omega
              have c3 : w ≠ at0 := fun hq => by subst hq; omega
              simp [c1, c2, c3]
            rw [if_pos (.inr hl), wayF, if_neg h0, hhit]
            simp only [Bool.true_and, Bool.or_true, if_true, if_neg h0]
            cases hds : ds.contains w with
            | true => simp only [if_true]
            | false =>
              simp only [Bool.false_eq_true, if_false]
              have ht := way_true hg (at0 := at0) (x := x) (r := r) (ds := ds) n w w hw0 (by omega)
              rw [down_fuel hg 4 n w hw0 (by omega) (by omega), ← ht, wayF, if_neg h0, hit_true]
              simp only [Bool.false_and, Bool.false_eq_true, if_false, Bool.or_false]
          · have hhit : hitF m at0 w false = false := by
              unfold hitF
              rw [hG']
              have c2 : ¬ b'.kind = m.leaf := by omega
              simp [c2]
            rw [if_neg (by omega)]
            exact way_false hg h3 n w dm hw0 (by omega) (by omega) hhit
theorem try_same {m : MapD} (hg : goodF m = true) {at0 x r : Int} {os ds : List Int} (h3 : kindF m at0 ≤ 3) (ha : at0 < 0) (hi : ∀ d ∈ ds, 0 ≤ d → d ∈ os) :
    tryR m x at0 (os, ds) r = if (tryC m at0 x r os ds).2.2 then some ((tryC m at0 x r os ds).1, (tryC m at0 x r os ds).2.1) else none := by
  have hh : hitF m at0 at0 false = false := by unfold hitF; simp
  have hw := way_false hg (x := x) (r := r) (ds := ds) h3 3 at0 0 ha h3 (Int.le_refl _) hh
  unfold tryC tryR
  rw [hw]
  by_cases hk : bucketF m at0 = none
  · rw [down_none hk, down_none hk]; rfl
  rw [down_fuel hg 4 3 at0 ha (by omega) h3]
  cases hd : downF m m.leaf x r 3 at0 with
  | none => rfl
  | some d =>
    simp only
    by_cases hd0 : 0 ≤ d
    · simp only [if_pos hd0]
      cases hc : ds.contains d with
      | true =>
        have : os.contains d = true := List.contains_iff_mem.2 (hi d (List.contains_iff_mem.1 hc) hd0)
        simp only [if_true, this, Bool.not_true, Bool.and_false, Bool.false_eq_true, if_false]
      | false =>
        rw [if_neg (show ¬ d < 0 by omega)]
        simp only [Bool.false_eq_true, if_false]
        cases mayF m d x <;> cases os.contains d <;> rfl
    · simp only [if_neg hd0]
      cases hc : ds.contains d with
      | true => rfl
      | false =>
        rw [if_pos (show d < 0 by omega)]
        simp only [Bool.false_eq_true, if_false]
        cases downF m 0 x r 4 d with
        | none => rfl
        | some o =>
          simp only [Option.map_some]
          cases mayF m o x <;> cases os.contains o <;> rfl
theorem tryR_pos {m : MapD} {x root r o d : Int} {s : List Int × List Int} (h : tryR m x root s r = some (o, d)) (hd : 0 ≤ d) : o = d := by
  unfold tryR at h
  cases h1 : downF m m.leaf x r 4 root with
  | none => rw [h1] at h; cases h
  | some d' =>
    rw [h1] at h
    simp only at h
    split at h
    · cases h
    · split at h
      · cases h
      · rename_i o' ho
        split at h
        · cases h
        · cases h
          rw [if_neg (by omega)] at ho
          exact (Option.some.inj ho).symm
theorem tryR_i64 {F : Nat → Prop} {H : AH} {m : MapD} {vo vp vb : AV} (hm : MpAt F H m vo vp vb) {x root r o d : Int} {s : List Int × List Int} (h : tryR m x root s r = some (o, d)) : I64 o ∧ I64 d := by
  unfold tryR at h
  cases h1 : downF m m.leaf x r 4 root with
  | none => rw [h1] at h; cases h
  | some d' =>
    rw [h1] at h
    simp only at h
    split at h
    · cases h
    · split at h
      · cases h
      · rename_i o' ho
        split at h
        · cases h
        · cases h
          have hd := down_i64 hm _ _ _ h1
          refine ⟨?_, hd⟩
          split at ho
          · exact down_i64 hm _ _ _ ho
          · cases ho; exact hd
theorem firstR_try {m : MapD} {x root : Int} {s : List Int × List Int} {k : Nat} {y : Int × Int} : ∀ n, firstR m x root s k n = some y → ∃ r, tryR m x root s r = some y
  | 0, h => by rw [firstR_zero] at h; cases h
  | n + 1, h => by
    cases hn : firstR m x root s k n with
    | some z => rw [firstR_le hn (n + 1) (by omega)] at h; cases h; exact firstR_try n hn
    | none => rw [firstR_next hn] at h; exact ⟨_, h⟩
theorem copyR_inv {m : MapD} {x root : Int} {s : List Int × List Int} {k : Nat} (hi : ∀ d ∈ s.2, 0 ≤ d → d ∈ s.1) : ∀ d ∈ (copyR m x root s k).2, 0 ≤ d → d ∈ (copyR m x root s k).1 := by
  unfold copyR
  cases h : firstR m x root s k 50 with
  | none => exact hi
  | some y =>
    obtain ⟨o, d⟩ := y
    obtain ⟨r, hr⟩ := firstR_try _ h
    intro d' hd' h0
    simp only [List.mem_append, List.mem_singleton] at hd' ⊢
    rcases hd' with hd' | rfl
    · exact .inl (hi _ hd' h0)
    · exact .inr (tryR_pos hr h0).symm
theorem selN_inv {m : MapD} {x root : Int} : ∀ k, ∀ d ∈ (selN m x root k).2, 0 ≤ d → d ∈ (selN m x root k).1
  | 0 => fun d hd => by cases hd
  | k + 1 => by rw [selN]; exact copyR_inv (selN_inv k)
theorem tryR_may {m : MapD} {x root r o d : Int} {s : List Int × List Int} (h : tryR m x root s r = some (o, d)) : mayF m o x = true ∧ s.1.contains o = false := by
  unfold tryR at h
  cases h1 : downF m m.leaf x r 4 root with
  | none => rw [h1] at h; cases h
  | some d' =>
    rw [h1] at h
    simp only at h
    split at h
    · cases h
    · split at h
      · cases h
      · rename_i o' ho
        split at h
        · cases h
        · rename_i hn
          cases h
          cases hm : mayF m o x with
          | false => rw [hm] at hn; exact absurd rfl hn
          | true =>
            cases hc : s.1.contains o with
            | true => rw [hm, hc] at hn; exact absurd rfl hn
            | false => exact ⟨rfl, rfl⟩
theorem copyR_may {m : MapD} {x root : Int} {s : List Int × List Int} {k : Nat} (hi : (∀ o ∈ s.1, mayF m o x = true) ∧ s.1.Nodup) : (∀ o ∈ (copyR m x root s k).1, mayF m o x = true) ∧ (copyR m x root s k).1.Nodup := by
  unfold copyR
  cases h : firstR m x root s k 50 with
  | none => exact hi
  | some y =>
    obtain ⟨o, d⟩ := y
    obtain ⟨r, hr⟩ := firstR_try _ h
    obtain ⟨h1, h2⟩ := tryR_may hr
    refine ⟨fun o' ho' => ?_, ?_⟩
    · simp only [List.mem_append, List.mem_singleton] at ho'
      rcases ho' with ho' | rfl
      · exact hi.1 _ ho'
      · exact h1
    · rw [List.nodup_append]
      refine ⟨hi.2, by simp, fun a ha b hb => ?_⟩
      simp only [List.mem_singleton] at hb
      subst hb
      intro hab
      subst hab
      rw [List.contains_iff_mem.2 ha] at h2
      cases h2
theorem selN_may {m : MapD} {x root : Int} : ∀ k, (∀ o ∈ (selN m x root k).1, mayF m o x = true) ∧ (selN m x root k).1.Nodup
  | 0 => ⟨fun o ho => (by cases ho), List.nodup_nil⟩
  | k + 1 => by rw [selN]; exact copyR_may (selN_may k)
theorem selectF_may {m : MapD} {x n : Int} : (∀ o ∈ selectF m x n, mayF m o x = true) ∧ (selectF m x n).Nodup := by
  unfold selectF
  split
  · split
    · exact ⟨fun o ho => (by cases ho), List.nodup_nil⟩
    · exact selN_may _
  · exact ⟨fun o ho => (by cases ho), List.nodup_nil⟩
theorem may_able {m : MapD} {x o : Int} (h : mayF m o x = true) : ableF m o = true := by
  unfold mayF at h
  unfold ableF
  by_cases h0 : 0 ≤ o
  · rw [if_pos h0] at h ⊢
    cases hy : m.osds[o.toNat]? with
    | none => rw [hy] at h; cases h
    | some y =>
      rw [hy] at h
      simp only [mayO, ableO, Bool.and_eq_true] at h ⊢
      exact h.1
  · rw [if_neg h0] at h; cases h
theorem selectF_able {m : MapD} {x n : Int} : ∀ o ∈ selectF m x n, ableF m o = true := fun o ho => may_able (selectF_may.1 o ho)
theorem cnt_le (n : Int) : cntF n ≤ 8 := by unfold cntF; split <;> omega
theorem selectF_len {m : MapD} {x n : Int} : (selectF m x n).length ≤ 8 := by
  unfold selectF
  split
  · split
    · exact Nat.zero_le _
    · exact Nat.le_trans (selN_len _ _ _ _).1 (cnt_le n)
  · exact Nat.zero_le _
end Go.Proofs.Ytkgbeihcepociaa.Ex
end

section

set_option linter.unusedSimpArgs false
set_option linter.unusedVariables false
set_option maxRecDepth 10000
set_option maxHeartbeats 4000000
namespace Go.Proofs.Ytkgbeihcepociaa.Ex
open Go
theorem OwnL.low {α : Type} {R : Rep α} {n0 : Nat} {h : AH} {v : AV} {e : TypeId} {xs : List α} (ho : OwnL R (fun _ => False) n0 h v e xs) {b off n : Nat} {cap : Cap} (hv : v = .sl b off n cap) : n0 ≤ b ∧ b < h.n := by
  obtain ⟨L, h1, h2⟩ := ho
  rcases h1.2 with ⟨hh, _⟩ | ⟨p, hh, hp, hat⟩
  · rw [hh] at hv; cases hv
  · rw [hh] at hv; cases hv; exact ⟨hp, at_lt hat⟩
theorem OwnL.put {α : Type} {R : Rep α} {n0 : Nat} {h : AH} {v : AV} {e : TypeId} {xs : List α} (ho : OwnL R (fun _ => False) n0 h v e xs) {p : Nat} (hp : p < n0) (x : AB) : OwnL R (fun _ => False) n0 (h.put p x) v e xs :=
  ho.lift (fun b off n cap hv => at_put_ne x (by have := ho.low hv; omega)) (fun b hb => hb.elim)
theorem copy_x {F : Nat → Prop} {H : AH} {m : MapD} {vo vp vb vs vq : AV} {x root : Int} {os ds : List Int} {p : Nat} (k : Nat) (hm : MpAt F H m vo vp vb) (hok : OkM m) (hlo : Sm 40 m.osds) (hg : goodF m = true) (hr : root < 0) (h3 : kindF m root ≤ 3)
    (hp : H.at p = some (.cells (chC m vo vp vb x vs vq) 170)) (hs : OwnL RInt (fun _ => False) (p + 1) H vs 3 os) (hq : OwnL RInt (fun _ => False) (p + 1) H vq 3 ds) (hdj : Disj vs vq) (hsl : os.length ≤ k) (hql : ds.length ≤ k) (hk : k ≤ 8) (hi : ∀ d ∈ ds, 0 ≤ d → d ∈ os) :
    WC Try.prog (tabOf Try.prog NT0) S0 131 [.ptr p 0, .lit (.int .i64 root), .lit (.int .i64 k)] H fun v h' => v = .tup [] ∧ Ext p H h' ∧ ∃ vs' vq', h'.at p = some (.cells (chC m vo vp vb x vs' vq') 170) ∧
      OwnL RInt (fun _ => False) (p + 1) h' vs' 3 (copyR m x root (os, ds) k).1 ∧ OwnL RInt (fun _ => False) (p + 1) h' vq' 3 (copyR m x root (os, ds) k).2 ∧ Disj vs' vq' := by
  refine WC_fn Try.func131 rfl rfl ?_
  have lp := at_lt hp
  have hvs := hs.toSl (F := fun _ => True) (fun _ _ => trivial) (fun _ _ => trivial)
  have hvq := hq.toSl (F := fun _ => True) (fun _ _ => trivial) (fun _ _ => trivial)
  simp only [core, Nat.reduceAdd, Nat.reduceSub, Nat.reduceMul, Nat.reduceLT, Nat.reduceEqDiff, reduceCtorEq, Nat.reduceLeDiff, Int.reduceLE, Int.reduceLT, Int.reduceToNat, Try.ntmps131]
  refine WB_for 50 (fun i t h => Ext H.n H h ∧ firstR m x root (os, ds) k i = none ∧ t.n = 45 ∧ t.get 0 = .ptr p 0 ∧ t.get 1 = .lit (.int .i64 root) ∧ t.get 2 = .lit (.int .i64 k) ∧ t.get 10 = .lit (.int .i64 i)) ?_ ?_ _ _ ?_
  · rintro i t h hi50 hc ⟨he, hf, hn, g0, g1, g2, g10⟩ ih
    have hc : ((i : Int) < 50) = True := by simp only [eq_iff_iff, iff_true]; omega
    have hws := wrap_succ hi50 (by omega)
    have hwk : IntKind.i64.wrap ((k : Int) + (i : Int)) = ((k + i : Nat) : Int) := (wrap_in (by omega) (by omega)).trans (by omega)
    have P1 := (he.2 _ lp).trans hp
    have hf1 : firstR m x root (os, ds) k (i + 1) = tryR m x root (os, ds) ((k + i : Nat) : Int) := firstR_next hf
    have hT := try_same hg (x := x) (r := ((k + i : Nat) : Int)) (os := os) (ds := ds) h3 hr hi
    simp only [core, Nat.reduceAdd, Nat.reduceSub, Nat.reduceMul, Nat.reduceLT, Nat.reduceEqDiff, reduceCtorEq, Nat.reduceLeDiff, Int.reduceLE, Int.reduceLT, Int.reduceToNat, hn, g0, g1, g2, g10, hc, hwk]
    refine (tryC_x root _ (hm.ext he (Nat.le_refl _)) hok hlo hg P1 (hvs.ext he (Nat.le_refl _)) (hvq.ext he (Nat.le_refl _)) (by omega) (by omega) h3).mono ?_
    rintro _ h2 ⟨e2, rfl⟩
    have E2 := he.step e2
    obtain ⟨⟨o, d, b⟩, hy⟩ : ∃ y, y = tryC m root x ((k + i : Nat) : Int) os ds := ⟨_, rfl⟩
    rw [← hy] at hT ⊢
    cases b with
    | false =>
      simp only [core, Nat.reduceAdd, Nat.reduceSub, Nat.reduceMul, Nat.reduceLT, Nat.reduceEqDiff, reduceCtorEq, Nat.reduceLeDiff, Int.reduceLE, Int.reduceLT, Int.reduceToNat, hn, g0, g1, g2, g10, tryV, hws]
      refine ih _ _ ⟨E2, by rw [hf1, hT]; rfl, ?_⟩
      simp only [core, Nat.reduceAdd, Nat.reduceSub, Nat.reduceMul, Nat.reduceLT, Nat.reduceEqDiff, reduceCtorEq, Nat.reduceLeDiff, Int.reduceLE, Int.reduceLT, Int.reduceToNat, hn, g0, g1, g2, g10]
    | true =>
    have hT : tryR m x root (os, ds) ((k + i : Nat) : Int) = some (o, d) := hT
    rw [hT] at hf1
    have hS : copyR m x root (os, ds) k = (os ++ [o], ds ++ [d]) := by
      unfold copyR
      rw [firstR_le hf1 50 (by omega)]
    obtain ⟨I1, I2⟩ := tryR_i64 hm hT
    have P2 := (E2.2 _ lp).trans hp
    unfold chC at P2
    have LP2 := ld_at (T := tabOf Try.prog NT0) P2
    have l2 := at_lt P2
    have hs2 := hs.ext E2 (Nat.le_refl _)
    have hq2 := hq.ext E2 (Nat.le_refl _)
    have q2 := e2.1
    have q3 := he.1
    simp only [core, Nat.reduceAdd, Nat.reduceSub, Nat.reduceMul, Nat.reduceLT, Nat.reduceEqDiff, reduceCtorEq, Nat.reduceLeDiff, Int.reduceLE, Int.reduceLT, Int.reduceToNat, hn, g0, g1, g2, g10, tryV, LP2, l2]
    obtain ⟨h3', hh3⟩ : ∃ h3', h3' = h2.push (.cells [.lit (.int .i64 o)] 3) := ⟨_, rfl⟩
    have e3 : Ext h2.n h2 h3' := hh3 ▸ (Ext.refl _ _).push _ (Nat.le_refl _)
    have A3 : h3'.at h2.n = some (.cells [.lit (.int .i64 o)] 3) := hh3 ▸ at_push_n h2 _
    have q4 := e3.1
    rw [← hh3]
    refine WOp_app ((hs2.ext e3 (Nat.le_refl _)).snoc (by kernel_rfl) (by kernel_rfl) (by kernel_rfl) (zv := .lit (.int .i64 0)) (by kernel_rfl) (by' := 8) (by kernel_rfl) rfl (by decide) (by decide) A3 (y := o) ⟨rfl, I1⟩ (by omega) (by omega) (by omega)) ?_
    rintro s8 h4 ⟨ho4, e4, k4⟩
    have P4 := ((e4.2 _ (by omega)).trans (e3.2 _ l2)).trans P2
    have LP4 := ld_at (T := tabOf Try.prog NT0) P4
    have l4 := at_lt P4
    have t8 := ho4.one
    obtain ⟨hq4, hd4⟩ := (hq2.ext e3 (Nat.le_refl _)).other hdj k4
    simp only [core, Nat.reduceAdd, Nat.reduceSub, Nat.reduceMul, Nat.reduceLT, Nat.reduceEqDiff, reduceCtorEq, Nat.reduceLeDiff, Int.reduceLE, Int.reduceLT, Int.reduceToNat, hn, g0, g1, g2, g10, LP4, l4, P4, t8]
    obtain ⟨h5, hh5⟩ : ∃ h5, h5 = h4.put p (.cells [.lit (.int .i64 m.epoch), vo, vp, vb, .lit (.int .i64 m.leaf), .lit (.int .u32 x), s8, vq] 170) := ⟨_, rfl⟩
    have e5 : Ext p h4 h5 := hh5 ▸ (Ext.refl _ _).put _ (Nat.le_refl _)
    have P5 : h5.at p = some (.cells [.lit (.int .i64 m.epoch), vo, vp, vb, .lit (.int .i64 m.leaf), .lit (.int .u32 x), s8, vq] 170) := hh5 ▸ at_put_same _ l4
    have ho5 : OwnL RInt (fun _ => False) (p + 1) h5 s8 3 (os ++ [o]) := hh5 ▸ ho4.put (by omega) _
    have hq5 : OwnL RInt (fun _ => False) (p + 1) h5 vq 3 ds := hh5 ▸ hq4.put (by omega) _
    have n5 : h5.n = h4.n := by rw [hh5, n_put]
    rw [← hh5]
    obtain ⟨h6, hh6⟩ : ∃ h6, h6 = h5.push (.cells [.lit (.int .i64 d)] 3) := ⟨_, rfl⟩
    have e6 : Ext h5.n h5 h6 := hh6 ▸ (Ext.refl _ _).push _ (Nat.le_refl _)
    have A6 : h6.at h4.n = some (.cells [.lit (.int .i64 d)] 3) := by rw [← n5, hh6]; exact at_push_n h5 _
    have q5 := e6.1
    rw [← hh6]
    refine WOp_app ((hq5.ext e6 (Nat.le_refl _)).snoc (by kernel_rfl) (by kernel_rfl) (by kernel_rfl) (zv := .lit (.int .i64 0)) (by kernel_rfl) (by' := 8) (by kernel_rfl) rfl (by decide) (by decide) A6 (y := d) ⟨rfl, I2⟩ (by omega) (by omega) (by omega)) ?_
    rintro s9 h7 ⟨ho7, e7, k7⟩
    have P7 := ((e7.2 _ (by omega)).trans (e6.2 _ (by omega))).trans P5
    have LP7 := ld_at (T := tabOf Try.prog NT0) P7
    have l7 := at_lt P7
    have t9 := ho7.one
    obtain ⟨ho7', hd7⟩ := (ho5.ext e6 (Nat.le_refl _)).other hd4.symm k7
    simp only [core, Nat.reduceAdd, Nat.reduceSub, Nat.reduceMul, Nat.reduceLT, Nat.reduceEqDiff, reduceCtorEq, Nat.reduceLeDiff, Int.reduceLE, Int.reduceLT, Int.reduceToNat, hn, g0, g1, g2, g10, LP7, l7, P7, t9]
    have q7 := e4.1
    have q8 := e7.1
    have EE : Ext p H (h7.put p (.cells [.lit (.int .i64 m.epoch), vo, vp, vb, .lit (.int .i64 m.leaf), .lit (.int .u32 x), s8, s9] 170)) := by
      exact ((((((E2.mono (by omega)).trans (e3.mono (by omega))).trans (e4.mono (by omega))).trans e5).trans (e6.mono (by omega))).trans (e7.mono (by omega))).put _ (Nat.le_refl _)
    refine ⟨EE, s8, s9, rfl, ?_, ?_, hd7.symm⟩
    · rw [hS]; exact ho7'.put (by omega) _
    · rw [hS]; exact ho7.put (by omega) _
  · rintro t h hc ⟨he, hf, hn, g0, g1, g2, g10⟩
    have hc : ((50 : Int) < 50) = False := by decide
    have hc' : (((50 : Nat) : Int) < 50) = False := by decide
    have hS : copyR m x root (os, ds) k = (os, ds) := by
      unfold copyR
      rw [hf]
    simp only [core, Nat.reduceAdd, Nat.reduceSub, Nat.reduceMul, Nat.reduceLT, Nat.reduceEqDiff, reduceCtorEq, Nat.reduceLeDiff, Int.reduceLE, Int.reduceLT, Int.reduceToNat, hn, g0, g1, g2, g10, hc, hc']
    refine ⟨by simp, ⟨he.1, fun b hb => he.2 b (by omega)⟩, vs, vq, (he.2 _ lp).trans hp, ?_, ?_, hdj⟩
    · rw [hS]; exact hs.ext he (Nat.le_refl _)
    · rw [hS]; exact hq.ext he (Nat.le_refl _)
  · simp only [core, Nat.reduceAdd, Nat.reduceSub, Nat.reduceMul, Nat.reduceLT, Nat.reduceEqDiff, reduceCtorEq, Nat.reduceLeDiff, Int.reduceLE, Int.reduceLT, Int.reduceToNat]
    refine ⟨Ext.refl _ _, firstR_zero, ?_⟩
    (repeat' apply And.intro) <;> first | rfl | trivial
end Go.Proofs.Ytkgbeihcepociaa.Ex
end

section

set_option linter.unusedSimpArgs false
set_option linter.unusedVariables false
set_option maxRecDepth 10000
set_option maxHeartbeats 4000000
namespace Go.Proofs.Ytkgbeihcepociaa.Ex
open Go
theorem root_good {m : MapD} (hg : goodF m = true) {root : Int} (hr : root ∈ rootsR m) : root < 0 ∧ kindF m root ≤ 3 := by
  obtain ⟨h1, _, h3⟩ := roots_walk hg m.buckets.length (Nat.le_refl _)
  obtain ⟨c, hc, rfl⟩ := h3 root (h1.subset hr)
  have hc := List.mem_of_mem_take hc
  cases hb : bucketF m c.id with
  | none =>
    unfold bucketF at hb
    exact absurd (List.find?_eq_none.1 hb c hc) (by simp)
  | some b =>
    obtain ⟨g1, g2, g3, g4, g5, -⟩ := good_bkt hg hb
    refine ⟨by omega, ?_⟩
    rw [kind_bkt (by omega) hb]
    exact g4
theorem cnt_eq (n : Int) : (if 8 < (if n < 0 then 0 else n) then 8 else (if n < 0 then 0 else n)) = ((cntF n : Nat) : Int) := by
  unfold cntF
  repeat' split
  all_goals omega
theorem selectC_x {F : Nat → Prop} {H : AH} {m : MapD} {vo vp vb : AV} (x n : Int) (hm : MpAt F H m vo vp vb) (hok : OkM m) (hlo : Sm 40 m.osds) :
    WC Try.prog (tabOf Try.prog NT0) S0 94 [mpV m vo vp vb, .lit (.int .u32 x), .lit (.int .i64 n)] H fun v h' => Ext H.n H h' ∧ IsSl RInt (fun b => H.n ≤ b) h' v (selectF m x n) := by
  refine WC_fn Try.func94 rfl rfl ?_
  have o1 := hm.o.one
  have o2 := hm.p.one
  have o3 := hm.b.one
  have EP : ∀ x, Ext H.n H (H.push x) := fun x => (Ext.refl _ _).push _ (Nat.le_refl _)
  simp only [core, Nat.reduceAdd, Nat.reduceSub, Nat.reduceMul, Nat.reduceLT, Nat.reduceEqDiff, reduceCtorEq, Nat.reduceLeDiff, Int.reduceLE, Int.reduceLT, Int.reduceToNat, Try.ntmps94, mpV, o1, o2, o3]
  obtain ⟨h1, hh1⟩ : ∃ h1, h1 = H.push (.cells [.lit (.int .i64 m.epoch), vo, vp, vb, .lit (.int .i64 m.leaf)] 31) := ⟨_, rfl⟩
  have E1 : Ext H.n H h1 := hh1 ▸ EP _
  have A1 : h1.at H.n = some (.cells [.lit (.int .i64 m.epoch), vo, vp, vb, .lit (.int .i64 m.leaf)] 31) := hh1 ▸ at_push_n _ _
  have l1 := at_lt A1
  rw [← hh1]
  clear hh1
  refine (goodC_x (hm.ext E1 (Nat.le_refl _)) hok).mono ?_
  rintro _ h2 ⟨e2, rfl⟩
  have E2 := E1.step e2
  have A2 := (e2.2 _ l1).trans A1
  have l2 := at_lt A2
  have LA2 := ld_at (T := tabOf Try.prog NT0) A2
  cases hg : goodF m with
  | false =>
    simp only [core, Nat.reduceAdd, Nat.reduceSub, Nat.reduceMul, Nat.reduceLT, Nat.reduceEqDiff, reduceCtorEq, Nat.reduceLeDiff, Int.reduceLE, Int.reduceLT, Int.reduceToNat]
    refine ⟨E2, ?_⟩
    unfold selectF
    rw [hg]
    exact IsSl.nil
  | true =>
  simp only [core, Nat.reduceAdd, Nat.reduceSub, Nat.reduceMul, Nat.reduceLT, Nat.reduceEqDiff, reduceCtorEq, Nat.reduceLeDiff, Int.reduceLE, Int.reduceLT, Int.reduceToNat, LA2, l2]
  refine (rootsG_x (hm.ext E2 (Nat.le_refl _)) hok hg).mono ?_
  rintro vr h3 ⟨e3, hr3⟩
  have E3 := E2.step e3
  have A3 := (e3.2 _ l2).trans A2
  have l3 := at_lt A3
  have LA3 := ld_at (T := tabOf Try.prog NT0) A3
  have r1 := hr3.isSl
  have r2 := hr3.lenD
  simp only [corem, WB_cond_s, put, ldL, WB_label, List.nil_append, List.drop_zero, List.take_zero, Nat.reduceAdd, Nat.reduceSub, Nat.reduceMul, Nat.reduceLT, Nat.reduceEqDiff, reduceCtorEq, Nat.reduceLeDiff, Int.reduceLE, Int.reduceLT, Int.reduceToNat, r1, r2, -WB_cond_s]
  rw [WB_cond_s]
  simp only [corem, WB_cond_s, put, ldL, WB_label, List.nil_append, List.drop_zero, List.take_zero, Nat.reduceAdd, Nat.reduceSub, Nat.reduceMul, Nat.reduceLT, Nat.reduceEqDiff, reduceCtorEq, Nat.reduceLeDiff, Int.reduceLE, Int.reduceLT, Int.reduceToNat, -WB_cond_s]
  cases hrt : rootsR m with
  | nil =>
    refine ⟨fun _ => ⟨E3, ?_⟩, fun hq => absurd hq (by decide)⟩
    unfold selectF
    rw [hg, hrt]
    exact IsSl.nil
  | cons root rest =>
  obtain ⟨hr0, hk3⟩ := root_good hg (root := root) (by rw [hrt]; simp)
  have hrl : (0 : Nat) < (rootsR m).length := by rw [hrt]; simp
  have hrg : (rootsR m).getD 0 0 = root := by rw [hrt]; rfl
  have hsel : selectF m x n = (selN m x root (cntF n)).1 := by unfold selectF; rw [hg, hrt]; rfl
  rw [← hrt]
  refine ⟨fun hq => absurd (eq_of_beq hq) (by omega), fun hq0 => ?_⟩
  simp only [core, Nat.reduceAdd, Nat.reduceSub, Nat.reduceMul, Nat.reduceLT, Nat.reduceEqDiff, reduceCtorEq, Nat.reduceLeDiff, Int.reduceLE, Int.reduceLT, Int.reduceToNat, LA3, l3, o1, o2, o3]
  obtain ⟨h4, hh4⟩ : ∃ h4, h4 = h3.push (.cells [.lit (.int .i64 m.epoch), vo, vp, vb, .lit (.int .i64 m.leaf), .lit (.int .u32 x), .lit (.slice none 0 0), .lit (.slice none 0 0)] 170) := ⟨_, rfl⟩
  have P4 : h4.at h3.n = some (.cells (chC m vo vp vb x (.lit (.slice none 0 0)) (.lit (.slice none 0 0))) 170) := hh4 ▸ at_push_n _ _
  have e4 : Ext h3.n h3 h4 := hh4 ▸ (Ext.refl _ _).push _ (Nat.le_refl _)
  rw [← hh4]
  clear hh4
  simp only [cnt_eq]
  have hc8 := cnt_le n
  refine WB_for (cntF n) (fun k t h => ∃ vs vq, h.at h3.n = some (.cells (chC m vo vp vb x vs vq) 170) ∧ OwnL RInt (fun _ => False) (h3.n + 1) h vs 3 (selN m x root k).1 ∧ OwnL RInt (fun _ => False) (h3.n + 1) h vq 3 (selN m x root k).2 ∧ Disj vs vq ∧ Ext h3.n h3 h ∧ t.n = 39 ∧ t.get 7 = vr ∧ t.get 8 = .ptr h3.n 0 ∧ t.get 24 = .lit (.int .i64 (cntF n)) ∧ t.get 25 = .lit (.int .i64 k)) ?_ ?_ _ _ ?_
  · rintro k t h hlt hc ⟨vs, vq, P, hvs, hvq, hdj, he, hn, g7, g8, g24, g25⟩ ih
    have hws := wrap_succ hlt (by omega)
    have hld := (hr3.ext he (Nat.le_refl _)).int (T := tabOf Try.prog NT0) (e := 3) (by kernel_rfl) (by kernel_rfl) hrl
    rw [hrg, Nat.add_zero] at hld
    obtain ⟨q1, q2⟩ := selN_len m x root k
    simp only [core, Nat.reduceAdd, Nat.reduceSub, Nat.reduceMul, Nat.reduceLT, Nat.reduceEqDiff, reduceCtorEq, Nat.reduceLeDiff, Int.reduceLE, Int.reduceLT, Int.reduceToNat, hn, g7, g8, g24, g25, hc, hld, r1, r2, hrl]
    refine (copy_x k (hm.ext (E3.step he) (Nat.le_refl _)) hok hlo hg hr0 hk3 P hvs hvq hdj q1 q2 (by omega) (selN_inv k)).mono ?_
    rintro _ h' ⟨rfl, e', vs', vq', P', hvs', hvq', hdj'⟩
    simp only [core, Nat.reduceAdd, Nat.reduceSub, Nat.reduceMul, Nat.reduceLT, Nat.reduceEqDiff, reduceCtorEq, Nat.reduceLeDiff, Int.reduceLE, Int.reduceLT, Int.reduceToNat, hn, g7, g8, g24, g25, hws]
    refine ih _ _ ⟨vs', vq', P', hvs', hvq', hdj', he.trans e', ?_⟩
    simp only [core, Nat.reduceAdd, Nat.reduceSub, Nat.reduceMul, Nat.reduceLT, Nat.reduceEqDiff, reduceCtorEq, Nat.reduceLeDiff, Int.reduceLE, Int.reduceLT, Int.reduceToNat, hn, g7, g8, g24, g25]
  · rintro t h hc ⟨vs, vq, P, hvs, hvq, hdj, he, hn, g7, g8, g24, g25⟩
    unfold chC at P
    have LP := ld_at (T := tabOf Try.prog NT0) P
    have lP := at_lt P
    have o4 := hvs.one
    simp only [core, Nat.reduceAdd, Nat.reduceSub, Nat.reduceMul, Nat.reduceLT, Nat.reduceEqDiff, reduceCtorEq, Nat.reduceLeDiff, Int.reduceLE, Int.reduceLT, Int.reduceToNat, hn, g7, g8, g24, g25, hc, LP, lP, o4]
    refine ⟨E3.step he, ?_⟩
    rw [hsel]
    exact hvs.toSl (fun _ hf => hf.elim) (fun b hb => by have := E3.1; omega)
  · simp only [core, Nat.reduceAdd, Nat.reduceSub, Nat.reduceMul, Nat.reduceLT, Nat.reduceEqDiff, reduceCtorEq, Nat.reduceLeDiff, Int.reduceLE, Int.reduceLT, Int.reduceToNat]
    exact ⟨_, _, P4, OwnL.nil, OwnL.nil, Disj.nil_l, e4, rfl⟩
end Go.Proofs.Ytkgbeihcepociaa.Ex
end

section

set_option linter.unusedSimpArgs false
set_option linter.unusedVariables false
set_option maxRecDepth 10000
set_option maxHeartbeats 4000000
namespace Go.Proofs.Ytkgbeihcepociaa.Ex
open Go
def hashPg (pool seed : Int) : Int := hash2F (IntKind.u32.wrap seed) (IntKind.u32.wrap pool)
def actF (m : MapD) (pool seed : Int) : List Int := match poolF m pool with
  | none => []
  | some p => if seed < 0 ∨ p.pgs ≤ seed ∨ 8 ≤ seed then [] else selectF m (hashPg pool seed) p.size
def pgV (pool seed : Int) : AV := .agg [.lit (.int .i64 pool), .lit (.int .i64 seed)]
theorem actF_able {m : MapD} {pool seed : Int} : ∀ o ∈ actF m pool seed, ableF m o = true := by
  unfold actF
  split
  · exact fun o ho => by cases ho
  · split
    · exact fun o ho => by cases ho
    · exact selectF_able
theorem actF_len {m : MapD} {pool seed : Int} : (actF m pool seed).length ≤ 8 := by
  unfold actF
  split
  · exact Nat.zero_le _
  · split
    · exact Nat.zero_le _
    · exact selectF_len
theorem actR_x {F : Nat → Prop} {H : AH} {m : MapD} {vo vp vb : AV} (pool seed : Int) (hm : MpAt F H m vo vp vb) (hok : OkM m) (hlo : Sm 40 m.osds) (hpo : Sm 32 m.pools) :
    WC Try.prog (tabOf Try.prog NT0) S0 50 [mpV m vo vp vb, pgV pool seed] H fun v h' => Ext H.n H h' ∧ IsSl RInt (fun b => H.n ≤ b) h' v (actF m pool seed) := by
  refine WC_fn Try.func50 rfl rfl ?_
  have o1 := hm.o.one
  have o2 := hm.p.one
  have o3 := hm.b.one
  have i1 := hm.o.isSl
  have i2 := hm.p.isSl
  have i3 := hm.b.isSl
  simp only [core, Nat.reduceAdd, Nat.reduceSub, Nat.reduceMul, Nat.reduceLT, Nat.reduceEqDiff, reduceCtorEq, Nat.reduceLeDiff, Int.reduceLE, Int.reduceLT, Int.reduceToNat, Try.ntmps50, mpV, pgV, o1, o2, o3]
  obtain ⟨h1, hh1⟩ : ∃ h1, h1 = (H.push (.cells [.lit (.int .i64 m.epoch), vo, vp, vb, .lit (.int .i64 m.leaf)] 31)).push (.cells [.lit (.int .i64 pool), .lit (.int .i64 seed)] 56) := ⟨_, rfl⟩
  have E1 : Ext H.n H h1 := hh1 ▸ ((Ext.refl _ _).push _ (Nat.le_refl _)).push _ (by rw [n_push]; omega)
  have A1 : h1.at H.n = some (.cells [.lit (.int .i64 m.epoch), vo, vp, vb, .lit (.int .i64 m.leaf)] 31) := hh1 ▸ (at_push_lt _ (by rw [n_push]; omega)).trans (at_push_n _ _)
  have B1 : h1.at (H.n + 1) = some (.cells [.lit (.int .i64 pool), .lit (.int .i64 seed)] 56) := hh1 ▸ at_push_n _ _
  have la1 := at_lt A1
  have lb1 := at_lt B1
  have LA1 := ld_at (T := tabOf Try.prog NT0) A1
  have LB1 := ld_at (T := tabOf Try.prog NT0) B1
  rw [← hh1]
  clear hh1
  refine (poolR_x pool (hm.ext E1 (Nat.le_refl _)) hpo).mono ?_
  rintro _ h2 ⟨e2, rfl⟩
  have E2 := E1.step e2
  have A2 := (e2.2 _ la1).trans A1
  have B2 := (e2.2 _ lb1).trans B1
  simp only [core, Nat.reduceAdd, Nat.reduceSub, Nat.reduceMul, Nat.reduceLT, Nat.reduceEqDiff, reduceCtorEq, Nat.reduceLeDiff, Int.reduceLE, Int.reduceLT, Int.reduceToNat, poolV]
  obtain ⟨h3, hh3⟩ : ∃ h3, h3 = h2.push (.cells [.lit (.int .i64 (poolG m pool).id), .lit (.int .i64 (poolG m pool).size), .lit (.int .i64 (poolG m pool).min), .lit (.int .i64 (poolG m pool).pgs)] 94) := ⟨_, rfl⟩
  have e3 : Ext h2.n h2 h3 := hh3 ▸ (Ext.refl _ _).push _ (Nat.le_refl _)
  have C3 : h3.at h2.n = some (.cells [.lit (.int .i64 (poolG m pool).id), .lit (.int .i64 (poolG m pool).size), .lit (.int .i64 (poolG m pool).min), .lit (.int .i64 (poolG m pool).pgs)] 94) := hh3 ▸ at_push_n _ _
  have E3 := E2.step e3
  have A3 := (e3.2 _ (at_lt A2)).trans A2
  have B3 := (e3.2 _ (at_lt B2)).trans B2
  have la3 := at_lt A3
  have lb3 := at_lt B3
  have lc3 := at_lt C3
  have LA3 := ld_at (T := tabOf Try.prog NT0) A3
  have LB3 := ld_at (T := tabOf Try.prog NT0) B3
  have LC3 := ld_at (T := tabOf Try.prog NT0) C3
  rw [← hh3]
  clear hh3
  by_cases hq : poolF m pool = none
  · simp only [core, Nat.reduceAdd, Nat.reduceSub, Nat.reduceMul, Nat.reduceLT, Nat.reduceEqDiff, reduceCtorEq, Nat.reduceLeDiff, Int.reduceLE, Int.reduceLT, Int.reduceToNat, hq, Option.isSome_none]
    refine ⟨E3, ?_⟩
    unfold actF
    rw [hq]
    exact IsSl.nil
  obtain ⟨pl, hq⟩ := Option.ne_none_iff_exists'.1 hq
  have hG : poolG m pool = pl := by unfold poolG; rw [hq]; rfl
  rw [hG] at LC3
  have hbad : (seed < 0 ∨ pl.pgs ≤ seed ∨ 8 ≤ seed) → ∀ h', Ext H.n H h' → Ext H.n H h' ∧ IsSl RInt (fun b => H.n ≤ b) h' (.lit (.slice none 0 0)) (actF m pool seed) := fun hc h' e => by
    refine ⟨e, ?_⟩
    unfold actF
    rw [hq]
    simp only [if_pos hc]
    exact IsSl.nil
  by_cases c1 : seed < 0
  · simp only [core, Nat.reduceAdd, Nat.reduceSub, Nat.reduceMul, Nat.reduceLT, Nat.reduceEqDiff, reduceCtorEq, Nat.reduceLeDiff, Int.reduceLE, Int.reduceLT, Int.reduceToNat, hq, Option.isSome_some, LB3, lb3, c1]
    exact hbad (.inl c1) _ E3
  by_cases c2 : pl.pgs ≤ seed
  · simp only [core, Nat.reduceAdd, Nat.reduceSub, Nat.reduceMul, Nat.reduceLT, Nat.reduceEqDiff, reduceCtorEq, Nat.reduceLeDiff, Int.reduceLE, Int.reduceLT, Int.reduceToNat, hq, Option.isSome_some, LB3, lb3, LC3, lc3, c1, c2]
    exact hbad (.inr (.inl c2)) _ E3
  by_cases c3 : 8 ≤ seed
  · simp only [core, Nat.reduceAdd, Nat.reduceSub, Nat.reduceMul, Nat.reduceLT, Nat.reduceEqDiff, reduceCtorEq, Nat.reduceLeDiff, Int.reduceLE, Int.reduceLT, Int.reduceToNat, hq, Option.isSome_some, LB3, lb3, LC3, lc3, c1, c2, c3]
    exact hbad (.inr (.inr c3)) _ E3
  have hact : actF m pool seed = selectF m (hashPg pool seed) pl.size := by
    unfold actF
    rw [hq]
    simp only [if_neg (show ¬ (seed < 0 ∨ pl.pgs ≤ seed ∨ 8 ≤ seed) by omega)]
  simp only [core, Nat.reduceAdd, Nat.reduceSub, Nat.reduceMul, Nat.reduceLT, Nat.reduceEqDiff, reduceCtorEq, Nat.reduceLeDiff, Int.reduceLE, Int.reduceLT, Int.reduceToNat, hq, Option.isSome_some, LB3, lb3, LC3, lc3, c1, c2, c3]
  rw [WB_regionD [0, 1, 2, 3, 4, 5, 6, 8, 9, 7, 10, 11] 11146287964711016698268812174730525759504384 (by kernel_rfl)]
  repeat ((with_reducible refine WDM_cons ?_; simp only [dw1]; try simp only [dw2, Nat.reduceAdd, Nat.reduceMul, Nat.reduceShiftRight, Nat.reduceMod, Nat.reduceEqDiff]); simp only [core, Nat.reduceAdd, Nat.reduceSub, Nat.reduceMul, Nat.reduceLT, Nat.reduceEqDiff, reduceCtorEq, Nat.reduceLeDiff, Int.reduceLE, Int.reduceLT, Int.reduceToNat, cored, LA3, la3, LB3, lb3, LC3, lc3, i1, i2, i3])
  refine hash2R_c ?_
  repeat ((with_reducible refine WDM_cons ?_; simp only [dw1]; try simp only [dw2, Nat.reduceAdd, Nat.reduceMul, Nat.reduceShiftRight, Nat.reduceMod, Nat.reduceEqDiff]); simp only [core, Nat.reduceAdd, Nat.reduceSub, Nat.reduceMul, Nat.reduceLT, Nat.reduceEqDiff, reduceCtorEq, Nat.reduceLeDiff, Int.reduceLE, Int.reduceLT, Int.reduceToNat, cored, LA3, la3, LB3, lb3, LC3, lc3, i1, i2, i3])
  refine (selectR_x _ _ (hm.ext E3 (Nat.le_refl _)) hok hlo).mono ?_
  rintro v h4 ⟨e4, hv⟩
  have v1 := hv.isSl
  repeat ((with_reducible refine WDM_cons ?_; simp only [dw1]; try simp only [dw2, Nat.reduceAdd, Nat.reduceMul, Nat.reduceShiftRight, Nat.reduceMod, Nat.reduceEqDiff]); simp only [core, Nat.reduceAdd, Nat.reduceSub, Nat.reduceMul, Nat.reduceLT, Nat.reduceEqDiff, reduceCtorEq, Nat.reduceLeDiff, Int.reduceLE, Int.reduceLT, Int.reduceToNat, cored, v1, i1, i2, i3])
  refine ⟨E3.step e4, ?_⟩
  rw [hact]
  exact hv.lift fun b hb _ => ⟨rfl, Nat.le_trans E3.1 hb⟩
theorem act_x {F : Nat → Prop} {H : AH} {m : MapD} {vo vp vb : AV} (pool seed : Int) (hm : MpAt F H m vo vp vb) (hok : OkM m) (hlo : Sm 40 m.osds) (hpo : Sm 32 m.pools) :
    WC Try.prog (tabOf Try.prog NT0) S0 45 [mpV m vo vp vb, pgV pool seed] H fun v h' => Ext H.n H h' ∧ IsSl RInt (fun b => H.n ≤ b) h' v (actF m pool seed) := by
  refine WC_fn Try.func45 rfl rfl ?_
  have o1 := hm.o.one
  have o2 := hm.p.one
  have o3 := hm.b.one
  have i1 := hm.o.isSl
  have i2 := hm.p.isSl
  have i3 := hm.b.isSl
  simp only [core, Nat.reduceAdd, Nat.reduceSub, Nat.reduceMul, Nat.reduceLT, Nat.reduceEqDiff, reduceCtorEq, Nat.reduceLeDiff, Int.reduceLE, Int.reduceLT, Int.reduceToNat, Try.ntmps45, mpV, pgV, o1, o2, o3]
  obtain ⟨h1, hh1⟩ : ∃ h1, h1 = (H.push (.cells [.lit (.int .i64 m.epoch), vo, vp, vb, .lit (.int .i64 m.leaf)] 31)).push (.cells [.lit (.int .i64 pool), .lit (.int .i64 seed)] 56) := ⟨_, rfl⟩
  have E1 : Ext H.n H h1 := hh1 ▸ ((Ext.refl _ _).push _ (Nat.le_refl _)).push _ (by rw [n_push]; omega)
  have A1 : h1.at H.n = some (.cells [.lit (.int .i64 m.epoch), vo, vp, vb, .lit (.int .i64 m.leaf)] 31) := hh1 ▸ (at_push_lt _ (by rw [n_push]; omega)).trans (at_push_n _ _)
  have B1 : h1.at (H.n + 1) = some (.cells [.lit (.int .i64 pool), .lit (.int .i64 seed)] 56) := hh1 ▸ at_push_n _ _
  have la1 := at_lt A1
  have lb1 := at_lt B1
  have LA1 := ld_at (T := tabOf Try.prog NT0) A1
  have LB1 := ld_at (T := tabOf Try.prog NT0) B1
  rw [← hh1]
  clear hh1
  refine (pool_x pool (hm.ext E1 (Nat.le_refl _)) hpo).mono ?_
  rintro _ h2 ⟨e2, rfl⟩
  have E2 := E1.step e2
  have A2 := (e2.2 _ la1).trans A1
  have B2 := (e2.2 _ lb1).trans B1
  simp only [core, Nat.reduceAdd, Nat.reduceSub, Nat.reduceMul, Nat.reduceLT, Nat.reduceEqDiff, reduceCtorEq, Nat.reduceLeDiff, Int.reduceLE, Int.reduceLT, Int.reduceToNat, poolV]
  obtain ⟨h3, hh3⟩ : ∃ h3, h3 = h2.push (.cells [.lit (.int .i64 (poolG m pool).id), .lit (.int .i64 (poolG m pool).size), .lit (.int .i64 (poolG m pool).min), .lit (.int .i64 (poolG m pool).pgs)] 94) := ⟨_, rfl⟩
  have e3 : Ext h2.n h2 h3 := hh3 ▸ (Ext.refl _ _).push _ (Nat.le_refl _)
  have C3 : h3.at h2.n = some (.cells [.lit (.int .i64 (poolG m pool).id), .lit (.int .i64 (poolG m pool).size), .lit (.int .i64 (poolG m pool).min), .lit (.int .i64 (poolG m pool).pgs)] 94) := hh3 ▸ at_push_n _ _
  have E3 := E2.step e3
  have A3 := (e3.2 _ (at_lt A2)).trans A2
  have B3 := (e3.2 _ (at_lt B2)).trans B2
  have la3 := at_lt A3
  have lb3 := at_lt B3
  have lc3 := at_lt C3
  have LA3 := ld_at (T := tabOf Try.prog NT0) A3
  have LB3 := ld_at (T := tabOf Try.prog NT0) B3
  have LC3 := ld_at (T := tabOf Try.prog NT0) C3
  rw [← hh3]
  clear hh3
  by_cases hq : poolF m pool = none
  · simp only [core, Nat.reduceAdd, Nat.reduceSub, Nat.reduceMul, Nat.reduceLT, Nat.reduceEqDiff, reduceCtorEq, Nat.reduceLeDiff, Int.reduceLE, Int.reduceLT, Int.reduceToNat, hq, Option.isSome_none]
    refine ⟨E3, ?_⟩
    unfold actF
    rw [hq]
    exact IsSl.nil
  obtain ⟨pl, hq⟩ := Option.ne_none_iff_exists'.1 hq
  have hG : poolG m pool = pl := by unfold poolG; rw [hq]; rfl
  rw [hG] at LC3
  have hbad : (seed < 0 ∨ pl.pgs ≤ seed ∨ 8 ≤ seed) → ∀ h', Ext H.n H h' → Ext H.n H h' ∧ IsSl RInt (fun b => H.n ≤ b) h' (.lit (.slice none 0 0)) (actF m pool seed) := fun hc h' e => by
    refine ⟨e, ?_⟩
    unfold actF
    rw [hq]
    simp only [if_pos hc]
    exact IsSl.nil
  by_cases c1 : seed < 0
  · simp only [core, Nat.reduceAdd, Nat.reduceSub, Nat.reduceMul, Nat.reduceLT, Nat.reduceEqDiff, reduceCtorEq, Nat.reduceLeDiff, Int.reduceLE, Int.reduceLT, Int.reduceToNat, hq, Option.isSome_some, LB3, lb3, c1]
    exact hbad (.inl c1) _ E3
  by_cases c2 : pl.pgs ≤ seed
  · by_cases c4 : 8 < pl.pgs
    · have c5 : 8 ≤ seed := by omega
      simp only [core, Nat.reduceAdd, Nat.reduceSub, Nat.reduceMul, Nat.reduceLT, Nat.reduceEqDiff, reduceCtorEq, Nat.reduceLeDiff, Int.reduceLE, Int.reduceLT, Int.reduceToNat, hq, Option.isSome_some, LB3, lb3, LC3, lc3, c1, c4, c5]
      exact hbad (.inr (.inl c2)) _ E3
    · simp only [core, Nat.reduceAdd, Nat.reduceSub, Nat.reduceMul, Nat.reduceLT, Nat.reduceEqDiff, reduceCtorEq, Nat.reduceLeDiff, Int.reduceLE, Int.reduceLT, Int.reduceToNat, hq, Option.isSome_some, LB3, lb3, LC3, lc3, c1, c2, c4]
      exact hbad (.inr (.inl c2)) _ E3
  by_cases c3 : 8 ≤ seed
  · have c4 : 8 < pl.pgs := by omega
    simp only [core, Nat.reduceAdd, Nat.reduceSub, Nat.reduceMul, Nat.reduceLT, Nat.reduceEqDiff, reduceCtorEq, Nat.reduceLeDiff, Int.reduceLE, Int.reduceLT, Int.reduceToNat, hq, Option.isSome_some, LB3, lb3, LC3, lc3, c1, c4, c3]
    exact hbad (.inr (.inr c3)) _ E3
  have hact : actF m pool seed = selectF m (hashPg pool seed) pl.size := by
    unfold actF
    rw [hq]
    simp only [if_neg (show ¬ (seed < 0 ∨ pl.pgs ≤ seed ∨ 8 ≤ seed) by omega)]
  have c4 : ((if 8 < pl.pgs then 8 else pl.pgs) ≤ seed) = False := by
    simp only [eq_iff_iff, iff_false]
    split <;> omega
  simp only [core, Nat.reduceAdd, Nat.reduceSub, Nat.reduceMul, Nat.reduceLT, Nat.reduceEqDiff, reduceCtorEq, Nat.reduceLeDiff, Int.reduceLE, Int.reduceLT, Int.reduceToNat, hq, Option.isSome_some, LB3, lb3, LC3, lc3, c1, c4]
  rw [WB_regionD [0, 2, 3, 4, 5, 6, 7, 9, 10, 13, 1, 8, 11, 12] 1532168142376787500481165071645569925414942425950978048 (by kernel_rfl)]
  repeat ((with_reducible refine WDM_cons ?_; simp only [dw1]; try simp only [dw2, Nat.reduceAdd, Nat.reduceMul, Nat.reduceShiftRight, Nat.reduceMod, Nat.reduceEqDiff]); simp only [core, Nat.reduceAdd, Nat.reduceSub, Nat.reduceMul, Nat.reduceLT, Nat.reduceEqDiff, reduceCtorEq, Nat.reduceLeDiff, Int.reduceLE, Int.reduceLT, Int.reduceToNat, cored, LA3, la3, LB3, lb3, LC3, lc3, i1, i2, i3])
  refine new_x.mono ?_
  rintro _ h4 ⟨q, rfl, e4⟩
  have E4 := E3.step e4
  have A4 := (e4.2 _ la3).trans A3
  have B4 := (e4.2 _ lb3).trans B3
  have C4 := (e4.2 _ lc3).trans C3
  rw [hG] at C4
  have la4 := at_lt A4
  have lb4 := at_lt B4
  have lc4 := at_lt C4
  have LA4 := ld_at (T := tabOf Try.prog NT0) A4
  have LB4 := ld_at (T := tabOf Try.prog NT0) B4
  have LC4 := ld_at (T := tabOf Try.prog NT0) C4
  repeat ((with_reducible refine WDM_cons ?_; simp only [dw1]; try simp only [dw2, Nat.reduceAdd, Nat.reduceMul, Nat.reduceShiftRight, Nat.reduceMod, Nat.reduceEqDiff]); simp only [core, Nat.reduceAdd, Nat.reduceSub, Nat.reduceMul, Nat.reduceLT, Nat.reduceEqDiff, reduceCtorEq, Nat.reduceLeDiff, Int.reduceLE, Int.reduceLT, Int.reduceToNat, cored, LA4, la4, LB4, lb4, LC4, lc4, i1, i2, i3])
  refine hash2_c ?_
  repeat ((with_reducible refine WDM_cons ?_; simp only [dw1]; try simp only [dw2, Nat.reduceAdd, Nat.reduceMul, Nat.reduceShiftRight, Nat.reduceMod, Nat.reduceEqDiff]); simp only [core, Nat.reduceAdd, Nat.reduceSub, Nat.reduceMul, Nat.reduceLT, Nat.reduceEqDiff, reduceCtorEq, Nat.reduceLeDiff, Int.reduceLE, Int.reduceLT, Int.reduceToNat, cored, LA4, la4, LB4, lb4, LC4, lc4, i1, i2, i3])
  refine (selectC_x _ _ (hm.ext E4 (Nat.le_refl _)) hok hlo).mono ?_
  rintro v h5 ⟨e5, hv⟩
  have E5 := E4.step e5
  have A5 := (e5.2 _ la4).trans A4
  have la5 := at_lt A5
  have v1 := hv.isSl
  have v2 := hv.lenD
  rw [show hash2F (IntKind.u32.wrap seed) (IntKind.u32.wrap pool) = hashPg pool seed from rfl, ← hact] at hv v2
  repeat ((with_reducible refine WDM_cons ?_; simp only [dw1]; try simp only [dw2, Nat.reduceAdd, Nat.reduceMul, Nat.reduceShiftRight, Nat.reduceMod, Nat.reduceEqDiff]); simp only [core, Nat.reduceAdd, Nat.reduceSub, Nat.reduceMul, Nat.reduceLT, Nat.reduceEqDiff, reduceCtorEq, Nat.reduceLeDiff, Int.reduceLE, Int.reduceLT, Int.reduceToNat, cored, v1, v2, i1, i2, i3])
  have hlen := actF_len (m := m) (pool := pool) (seed := seed)
  refine WB_for (actF m pool seed).length (fun i t h => ∃ o, OwnL RInt (fun _ => False) h5.n h o 3 ((actF m pool seed).take i) ∧ Ext h5.n h5 h ∧ t.n = 58 ∧ t.get 2 = .ptr H.n 0 ∧ t.get 7 = o ∧ t.get 43 = v ∧ t.get 44 = .lit (.int .i64 (actF m pool seed).length) ∧ t.get 45 = .lit (.int .i64 i)) ?_ ?_ _ _ ?_
  · rintro i t h hlt hc ⟨o, ho, he, hn, g2, g7, g43, g44, g45⟩ ih
    have E6 := E5.step he
    have A6 := (he.2 _ la5).trans A5
    have la6 := at_lt A6
    have LA6 := ld_at (T := tabOf Try.prog NT0) A6
    have hws := wrap_succ hlt (by omega)
    have hld := (hv.ext he (Nat.le_refl _)).int (T := tabOf Try.prog NT0) (e := 3) (by kernel_rfl) (by kernel_rfl) hlt
    have hel := getD_some' (0 : Int) hlt
    have hab := actF_able ((actF m pool seed).getD i 0) (List.mem_of_getElem? hel)
    have I1 := hv.i64 i hlt
    simp only [core, Nat.reduceAdd, Nat.reduceSub, Nat.reduceMul, Nat.reduceLT, Nat.reduceEqDiff, reduceCtorEq, Nat.reduceLeDiff, Int.reduceLE, Int.reduceLT, Int.reduceToNat, hn, g2, g7, g43, g44, g45, hc, hlt, hld, LA6, la6, v1, v2]
    refine (able_x _ (hm.ext E6 (Nat.le_refl _)) hlo).mono ?_
    rintro _ h7 ⟨e7, rfl⟩
    have he7 := he.step e7
    have ho7 := ho.ext e7 (Nat.le_refl _)
    simp only [core, Nat.reduceAdd, Nat.reduceSub, Nat.reduceMul, Nat.reduceLT, Nat.reduceEqDiff, reduceCtorEq, Nat.reduceLeDiff, Int.reduceLE, Int.reduceLT, Int.reduceToNat, hn, g2, g7, g43, g44, g45, hab]
    obtain ⟨h8, hh8⟩ : ∃ h8, h8 = h7.push (.cells [.lit (.int .i64 ((actF m pool seed).getD i 0))] 3) := ⟨_, rfl⟩
    have e8 : Ext h7.n h7 h8 := hh8 ▸ (Ext.refl _ _).push _ (Nat.le_refl _)
    have A8 : h8.at h7.n = some (.cells [.lit (.int .i64 ((actF m pool seed).getD i 0))] 3) := hh8 ▸ at_push_n h7 _
    have q7 := he7.1
    have q8 := e8.1
    rw [← hh8]
    have htl : ((actF m pool seed).take i).length = i := by rw [List.length_take]; omega
    refine WOp_app ((ho7.ext e8 (Nat.le_refl _)).snoc (by kernel_rfl) (by kernel_rfl) (by kernel_rfl) (zv := .lit (.int .i64 0)) (by kernel_rfl) (by' := 8) (by kernel_rfl) rfl (by decide) (by decide) A8 (y := (actF m pool seed).getD i 0) ⟨rfl, I1⟩ (by omega) (by omega) (by omega)) ?_
    rintro s9 h9 ⟨ho9, e9, k9⟩
    have t9 := ho9.one
    simp only [core, Nat.reduceAdd, Nat.reduceSub, Nat.reduceMul, Nat.reduceLT, Nat.reduceEqDiff, reduceCtorEq, Nat.reduceLeDiff, Int.reduceLE, Int.reduceLT, Int.reduceToNat, hn, g2, g7, g43, g44, g45, t9, hws]
    refine ih _ _ ⟨s9, ?_, (he7.step e8).trans e9, ?_⟩
    · rw [List.take_add_one, hel]
      exact ho9
    · simp only [core, Nat.reduceAdd, Nat.reduceSub, Nat.reduceMul, Nat.reduceLT, Nat.reduceEqDiff, reduceCtorEq, Nat.reduceLeDiff, Int.reduceLE, Int.reduceLT, Int.reduceToNat, hn, g2, g7, g43, g44, g45]
  · rintro t h hc ⟨o, ho, he, hn, g2, g7, g43, g44, g45⟩
    have t9 := ho.one
    rw [List.take_length] at ho
    simp only [core, Nat.reduceAdd, Nat.reduceSub, Nat.reduceMul, Nat.reduceLT, Nat.reduceEqDiff, reduceCtorEq, Nat.reduceLeDiff, Int.reduceLE, Int.reduceLT, Int.reduceToNat, hn, g2, g7, g43, g44, g45, hc, t9]
    refine ⟨E5.step he, ?_⟩
    exact ho.toSl (fun _ hf => hf.elim) (fun b hb => by have := E5.1; omega)
  · simp only [core, Nat.reduceAdd, Nat.reduceSub, Nat.reduceMul, Nat.reduceLT, Nat.reduceEqDiff, reduceCtorEq, Nat.reduceLeDiff, Int.reduceLE, Int.reduceLT, Int.reduceToNat]
    exact ⟨_, OwnL.nil, Ext.refl _ _, rfl, rfl⟩
end Go.Proofs.Ytkgbeihcepociaa.Ex
end
