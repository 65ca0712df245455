/- Part 13 of the proof: Ivl, Jn, Ivo, Ivk, Ivb, Ivq, Iv2, Ivg, Ivh. -/
import Derived.Test.YtkgbeihcepociaaM12
section

set_option linter.unusedSimpArgs false
set_option linter.unusedVariables false
set_option maxRecDepth 10000
set_option maxHeartbeats 4000000
namespace Go.Proofs.Ytkgbeihcepociaa.Ex
open Go
theorem two_ok : ∀ m ∈ twoD, OkMp m := by
  intro m hm
  simp only [twoD, List.mem_cons, List.not_mem_nil, or_false] at hm
  rcases hm with rfl | rfl
  all_goals
    refine ⟨⟨by unfold Sm; decide, fun _ _ => trivial⟩, ⟨by unfold Sm; decide, fun _ _ => trivial⟩, ⟨by unfold Sm; decide, fun y hy => ?_⟩⟩
    have hy : y ∈ [bktT] := hy
    rw [List.mem_singleton] at hy
    subst hy
    exact ⟨by unfold Sm; decide, by unfold Sm; decide⟩
theorem two_ivs : (ivsF 1 0 twoD).map (fun x => (x.first, x.last, x.mayRw)) = [(1, 1, true), (2, 2, false)] := by decide +kernel
theorem two_first : firstF 1 0 twoD = 2 := by decide +kernel
theorem two_prior : (priorF 0 (ivsF 1 0 twoD)).length = 1 := by decide +kernel
theorem lives15_x {H : AH} : WC Try.prog (tabOf Try.prog NT0) S0 31 [] H fun r h' => Ext H.n H h' ∧ r = .lit (.bool true) := by
  refine WC_fn Try.func31 rfl rfl ?_
  simp only [core, Nat.reduceAdd, Nat.reduceSub, Nat.reduceMul, Nat.reduceLT, Nat.reduceEqDiff, reduceCtorEq, Nat.reduceLeDiff, Int.reduceLE, Int.reduceLT, Int.reduceToNat, Try.ntmps31]
  obtain ⟨h1, hh1⟩ : ∃ h1, h1 = H.push (.cells [.lit (.int .i64 1), .lit (.int .i64 0)] 56) := ⟨_, rfl⟩
  have E1 : Ext H.n H h1 := hh1 ▸ (Ext.refl _ _).push _ (Nat.le_refl _)
  have P1 : h1.at H.n = some (.cells [.lit (.int .i64 1), .lit (.int .i64 0)] 56) := hh1 ▸ at_push_n _ _
  rw [← hh1]
  clear hh1
  have lp1 := at_lt P1
  have LP1 := ld_at (T := tabOf Try.prog NT0) P1
  rw [WB_regionD [1, 0, 2, 3] 29440 (by kernel_rfl)]
  repeat ((with_reducible refine WDM_cons ?_; simp only [dw1]; try simp only [dw2, Nat.reduceAdd, Nat.reduceMul, Nat.reduceShiftRight, Nat.reduceMod, Nat.reduceEqDiff]); simp only [core, Nat.reduceAdd, Nat.reduceSub, Nat.reduceMul, Nat.reduceLT, Nat.reduceEqDiff, reduceCtorEq, Nat.reduceLeDiff, Int.reduceLE, Int.reduceLT, Int.reduceToNat, cored, LP1, lp1])
  refine two_x.mono ?_
  rintro v h2 ⟨e2, hv⟩
  have E2 := E1.step e2
  have P2 := (e2.2 _ lp1).trans P1
  have lp2 := at_lt P2
  have LP2 := ld_at (T := tabOf Try.prog NT0) P2
  have v1 := hv.isSl
  repeat ((with_reducible refine WDM_cons ?_; simp only [dw1]; try simp only [dw2, Nat.reduceAdd, Nat.reduceMul, Nat.reduceShiftRight, Nat.reduceMod, Nat.reduceEqDiff]); simp only [core, Nat.reduceAdd, Nat.reduceSub, Nat.reduceMul, Nat.reduceLT, Nat.reduceEqDiff, reduceCtorEq, Nat.reduceLeDiff, Int.reduceLE, Int.reduceLT, Int.reduceToNat, cored, LP2, lp2, v1])
  refine (all_x 1 0 hv (by unfold Sm; decide) two_ok).mono ?_
  rintro r h3 ⟨e3, n0, -, ho⟩
  have E3 := E2.step e3
  have r1 := ho.isSl
  have r2 := ho.lenD
  have hr := ho.toSl (F := fun _ => True) (fun _ _ => trivial) (fun _ _ => trivial)
  obtain ⟨xs, hxs⟩ : ∃ xs, xs = ivsF 1 0 twoD := ⟨_, rfl⟩
  have hmap := two_ivs
  have hpr := two_prior
  have hac := fun x hx => ivs_ok (pool := 1) (seed := 0) (ms := twoD) x hx
  rw [← hxs] at hr r2 hmap hpr hac
  obtain ⟨x, y, rfl⟩ : ∃ x y, xs = [x, y] := by
    match xs, hmap with
    | [x, y], _ => exact ⟨x, y, rfl⟩
    | [], h => simp at h
    | [_], h => simp at h
    | _ :: _ :: _ :: _, h => simp at h
  simp only [List.map_cons, List.map_nil, List.cons.injEq, Prod.mk.injEq, and_true] at hmap
  obtain ⟨⟨f1, f2, f3⟩, g1, g2, g3⟩ := hmap
  obtain ⟨c, hc1, hld, hld0⟩ := hr.at (T := tabOf Try.prog NT0) RIv_z (i := 0) rfl
  obtain ⟨va, vb, rfl, -⟩ := RIv_is.1 hc1
  obtain ⟨c, hc2, hld', hld0'⟩ := hr.at (T := tabOf Try.prog NT0) RIv_z (i := 1) rfl
  obtain ⟨ua, ub, rfl, -⟩ := RIv_is.1 hc2
  simp only [Nat.zero_mul, Nat.add_zero, Nat.one_mul, f1, f2, f3, g3] at hld hld0 hld' hld0'
  have r2 : lenD r = 2 := r2
  have P3 := (e3.2 _ lp2).trans P2
  have lp3 := at_lt P3
  repeat ((with_reducible refine WDM_cons ?_; simp only [dw1]; try simp only [dw2, Nat.reduceAdd, Nat.reduceMul, Nat.reduceShiftRight, Nat.reduceMod, Nat.reduceEqDiff]); simp only [core, Nat.reduceAdd, Nat.reduceSub, Nat.reduceMul, Nat.reduceLT, Nat.reduceEqDiff, reduceCtorEq, Nat.reduceLeDiff, Int.reduceLE, Int.reduceLT, Int.reduceToNat, cored, r1])
  rw [WB_regionD [0, 1, 2, 3, 4, 5, 6, 7, 8, 9, 10, 11, 12, 13, 14, 15, 16, 17, 18, 19, 20, 21, 22, 23, 24, 25, 26, 27, 28, 29, 30, 31, 32, 33, 34, 35, 36, 38, 37, 39, 40, 41, 42] 20110922251646537642132421906151569872943364259989109016880945412238388916792015009970852157851158110947368603491339289596345835558468903417571743530785022850888530136036152000767647319844125367678496370972940275815732132005785689859647616858718016294671913686963794017969212488819327369349009283321050081721442510910207782513382829651839254863670035665280922732301997373115565987903096236233199972629241155340038622978175260730195761315607033448893122584077788098250363931884127106218521008806390542039810619045307074896813133560438831211869258899880148992 (by kernel_rfl)]
  have hk : (((2 : Nat) : Int) == 2) = true := rfl
  have hk1 : ((1 : Int) == 1) = true := rfl
  have hk2 : 0 < 2 := by decide
  have hk3 : 1 < 2 := by decide
  repeat ((with_reducible refine WDM_cons ?_; simp only [dw1]; try simp only [dw2, Nat.reduceAdd, Nat.reduceMul, Nat.reduceShiftRight, Nat.reduceMod, Nat.reduceEqDiff]); simp only [core, Nat.reduceAdd, Nat.reduceSub, Nat.reduceMul, Nat.reduceLT, Nat.reduceEqDiff, reduceCtorEq, Nat.reduceLeDiff, Int.reduceLE, Int.reduceLT, Int.reduceToNat, cored, r1, r2, hk, hk1, hk2, hk3, hld, hld0, hld', hld0'])
  refine (prior_x 0 hr (by show 2 * 72 ≤ _; decide) (fun z hz => by have := hac z hz; omega)).mono ?_
  rintro q h4 ⟨e4, hq⟩
  have E4 := E3.step e4
  have q1 := hq.isSl
  have q2 := hq.lenD
  rw [hpr] at q2
  have P4 := (e4.2 _ lp3).trans P3
  have lp4 := at_lt P4
  have LP4 := ld_at (T := tabOf Try.prog NT0) P4
  have hk4 : (((1 : Nat) : Int) == 1) = true := rfl
  repeat ((with_reducible refine WDM_cons ?_; simp only [dw1]; try simp only [dw2, Nat.reduceAdd, Nat.reduceMul, Nat.reduceShiftRight, Nat.reduceMod, Nat.reduceEqDiff]); simp only [core, Nat.reduceAdd, Nat.reduceSub, Nat.reduceMul, Nat.reduceLT, Nat.reduceEqDiff, reduceCtorEq, Nat.reduceLeDiff, Int.reduceLE, Int.reduceLT, Int.reduceToNat, cored, q1, q2, hk4, LP4, lp4])
  refine two_x.mono ?_
  rintro v' h5 ⟨e5, hv'⟩
  have E5 := E4.step e5
  have P5 := (e5.2 _ lp4).trans P4
  have lp5 := at_lt P5
  have LP5 := ld_at (T := tabOf Try.prog NT0) P5
  have v1' := hv'.isSl
  repeat ((with_reducible refine WDM_cons ?_; simp only [dw1]; try simp only [dw2, Nat.reduceAdd, Nat.reduceMul, Nat.reduceShiftRight, Nat.reduceMod, Nat.reduceEqDiff]); simp only [core, Nat.reduceAdd, Nat.reduceSub, Nat.reduceMul, Nat.reduceLT, Nat.reduceEqDiff, reduceCtorEq, Nat.reduceLeDiff, Int.reduceLE, Int.reduceLT, Int.reduceToNat, cored, LP5, lp5, v1'])
  refine (first_x 1 0 hv' (by unfold Sm; decide) two_ok).mono ?_
  rintro _ h6 ⟨e6, rfl⟩
  rw [two_first]
  have hk5 : ((2 : Int) == 2) = true := rfl
  repeat ((with_reducible refine WDM_cons ?_; simp only [dw1]; try simp only [dw2, Nat.reduceAdd, Nat.reduceMul, Nat.reduceShiftRight, Nat.reduceMod, Nat.reduceEqDiff]); simp only [core, Nat.reduceAdd, Nat.reduceSub, Nat.reduceMul, Nat.reduceLT, Nat.reduceEqDiff, reduceCtorEq, Nat.reduceLeDiff, Int.reduceLE, Int.reduceLT, Int.reduceToNat, cored, hk5])
  exact E5.step e6
end Go.Proofs.Ytkgbeihcepociaa.Ex
end

section

set_option linter.unusedSimpArgs false
set_option linter.unusedVariables false
namespace Go.Proofs.Ytkgbeihcepociaa.Ex
open Go Go.RowKit Go.ChangeShapes Go.WideShapes Go.ChangeAt
theorem rels_absV {ρ : Nat → Value} {w : World} : ∀ {cs : List Value}, (∀ c ∈ cs, c.oneCell' = true) → rels ρ (mu0 w) w (cs.map (absV w)) cs
  | [], _ => rels_nil
  | c :: r, h => rels_cons (absV_rel (h c (by simp))) (rels_absV fun x hx => h x (by simp [hx]))
theorem law_join {W : World} {f : FuncId} {vs : List Value} {avs : List AV} (ha : rels (fun _ => default) (mu0 W) W avs vs) (hw : WC Try.prog (tabOf Try.prog NT0) S0 f avs (absH W) fun v h' => v = .lit (.bool true)) :
    Calls Try.prog f vs.toArray W fun e w' => e = .returned (.bool true) ∧ Below W.heap.size W w' := by
  obtain ⟨n, o, h1, hex, v, cm, rfl, rfl⟩ := hw
  refine (ex_callsH tab_sound noNG follows_mixed (sums_ok _ _) (absH_hr W) (absH_nw W) hex ha).mono fun e w' hy => ?_
  obtain ⟨v', μ', rfl, hb, hv⟩ := hy
  exact ⟨by rw [rel_bool_inv hv], hb⟩
theorem open_agg {P : Program} {H : Type} {enc : TypeId × Value → H} {W : World} {base : Nat} {t : TypeId} {v0 : Value} {d0 : DataW H} {p0 : List MemPlace} {d : TypeDesc} {α : Type} {R : Rep α} {B : α → Prop} (hO : OpensA enc P W t R B) (hu : P.underlying t = some d) (hd : isAggD d = true)
    (k0 : Value.okWide P W .any base t v0) (h0 : DataW.Trod enc P W 0 (fun _ => true) true t v0 d0 p0) (hw : ∀ n ∈ d0.weights P t, n ≤ reachBytes) :
    ∃ (cs : List AV) (y : α), rel (fun _ => default) (mu0 W) W (.agg cs) v0 ∧ R.is (InH W) (absH W) cs y ∧ B y := by
  obtain ⟨cs, rfl, h1, h2⟩ := okWide_agg hu hd k0
  obtain ⟨fuel, hf⟩ := h0
  obtain ⟨h3, h4, y, h5, h6⟩ := hO.2 fuel cs.toList _ hf (List.all_eq_true.2 fun n hn => (by simpa using hw n hn))
  refine ⟨_, y, ?_, h5, h6⟩
  unfold rel
  exact ⟨cs.toList, by simp, rels_absV h4⟩
end Go.Proofs.Ytkgbeihcepociaa.Ex
end

section

set_option linter.unusedSimpArgs false
set_option linter.unusedVariables false
namespace Go.Proofs.Ytkgbeihcepociaa.Ex
open Go Go.RowKit Go.ChangeShapes Go.WideShapes Go.ChangeAt
theorem open_sl {P : Program} {H : Type} {enc : TypeId × Value → H} {W : World} {base : Nat} {t e : TypeId} {v0 : Value} {d0 : DataW H} {p0 : List MemPlace} {α : Type} {R : Rep α} {B : List α → Prop} (hO : OpensA enc P W t (RSl R) B) (hu : P.underlying t = some (.slice e))
    (k0 : Value.okWide P W .any base t v0) (h0 : DataW.Trod enc P W 0 (fun _ => true) true t v0 d0 p0) (hw : ∀ n ∈ d0.weights P t, n ≤ reachBytes) :
    ∃ (v : AV) (ys : List α), rel (fun _ => default) (mu0 W) W v v0 ∧ IsSl R (InH W) (absH W) v ys ∧ B ys := by
  obtain ⟨a, len, cap, rfl⟩ := okWide_slice hu k0
  obtain ⟨fuel, hf⟩ := h0
  obtain ⟨h3, h4, y, h5, h6⟩ := hO.2 fuel [Value.slice a len cap] _ hf (List.all_eq_true.2 fun n hn => (by simpa using hw n hn))
  obtain ⟨v', e', h5⟩ := RSl_is.1 h5
  cases e'
  exact ⟨_, y, absV_rel (h4 _ (by simp)), h5, h6⟩
end Go.Proofs.Ytkgbeihcepociaa.Ex
end

section

set_option linter.unusedSimpArgs false
set_option linter.unusedVariables false
set_option maxRecDepth 10000
set_option maxHeartbeats 4000000
namespace Go.Proofs.Ytkgbeihcepociaa.Ex
open Go
/-- A slice of numbers of the run's own, or an empty one without room. -/
def DnI (n0 : Nat) (h : AH) (d : AV) (xs : List Int) : Prop := OwnL RInt (fun _ => False) n0 h d 3 xs ∨ (xs = [] ∧ ∃ p, n0 ≤ p ∧ d = .sl p 0 0 (.kn 0) ∧ h.at p = some (.cells [] 3))
theorem DnI.ext {n0 m : Nat} {h h' : AH} {d : AV} {xs : List Int} (hd : DnI n0 h d xs) (he : Ext m h h') (hm : h.n ≤ m) : DnI n0 h' d xs := by
  rcases hd with ho | ⟨rfl, p, hp, rfl, hat⟩
  · exact .inl (ho.ext he hm)
  · exact .inr ⟨rfl, p, hp, rfl, (he.2 _ (by have := at_lt hat; omega)).trans hat⟩
theorem DnI.toSl {F : Nat → Prop} {n0 : Nat} {h : AH} {d : AV} {xs : List Int} (hd : DnI n0 h d xs) (h1 : ∀ b, n0 ≤ b → F b) : IsSl RInt F h d xs := by
  rcases hd with ho | ⟨rfl, p, hp0, rfl, hp⟩
  · exact ho.toSl (fun _ hf => hf.elim) h1
  · exact .mk (L := []) ⟨by simp, .inr ⟨p, 0, _, [], rfl, by unfold getR; rw [hp], by simp [cut]⟩⟩ (fun b off n cap e => by cases e; exact h1 _ hp0) (fun b off n cap e => by cases e; exact Nat.le_refl 0) .nil
theorem DnI.snoc {n0 q : Nat} {h : AH} {d : AV} {xs : List Int} {y : Int} {cap : Cap} {e' : TypeId} (hd : DnI n0 h d xs) (hq : h.at q = some (.cells [.lit (.int .i64 y)] e')) (hy : I64 y) (hn : (xs.length + 1) * 8 ≤ 140737488355328) (hn0 : n0 ≤ h.n) :
    ∃ s' h', appendA (tabOf Try.prog NT0) h 63 63 d (.sl q 0 1 cap) = some (s', h') ∧ DnI n0 h' s' (xs ++ [y]) ∧ Ext n0 h h' ∧ ∀ b, b < h.n → Apart d b → h'.at b = h.at b ∧ Apart s' b := by
  rcases hd with ho | ⟨rfl, p, hp0, rfl, hp⟩
  · obtain ⟨s', h', a, b, c, k⟩ := ho.snoc (by kernel_rfl) (by kernel_rfl) (by kernel_rfl) (zv := .lit (.int .i64 0)) (by kernel_rfl) (by' := 8) (by kernel_rfl) rfl (by decide) (by decide) hq (RInt_is.2 ⟨rfl, hy⟩) (by omega) hn hn0
    exact ⟨s', h', a, .inl b, c, k⟩
  · have hg : getR h q = some [.lit (.int .i64 y)] := by unfold getR; rw [hq]
    rcases append_fresh (T := tabOf Try.prog NT0) (h := h) (t := 63) (tx := 63) (e := 3) (z := 1) (by' := 8) (zv := .lit (.int .i64 0)) (M := [[.lit (.int .i64 y)]]) (p := p) (x := .sl q 0 1 cap) (by kernel_rfl) (by kernel_rfl) (by kernel_rfl) (by kernel_rfl) (by kernel_rfl) rfl (by decide) (by decide) hp
      (by simp [srcA, hg, cut]) rfl (by simp) rfl (by simp) (by simp) with ⟨hM, ha⟩ | ⟨hM, ha⟩
    · cases hM
    · exact ⟨_, _, ha, .inl (OwnL.ofInts (xs := [y]) hn0 (at_push_n _ _) (fun x hx => by rw [List.mem_singleton] at hx; subst hx; exact hy)), (Ext.refl _ _).push _ hn0, fun b hb _ => ⟨at_push_lt _ hb, fun off n cap e => by cases e; omega⟩⟩
/-- What is appended to an empty slice without room. -/
theorem dn_ints {n0 : Nat} {F : Nat → Prop} {H : AH} {v : AV} {xs : List Int} {p : Nat} (hv : IsSl RInt F H v xs) (hl : xs.length * 8 ≤ 140737488355328) (hp : H.at p = some (.cells [] 3)) (hp0 : n0 ≤ p) (hn0 : n0 ≤ H.n) :
    ∃ s' h', appendA (tabOf Try.prog NT0) H 63 63 (.sl p 0 0 (.kn 0)) v = some (s', h') ∧ DnI n0 h' s' xs ∧ Ext H.n H h' := by
  obtain ⟨L, h1, h2, h3, h4⟩ := hv.out
  have e0 := h4.1
  rcases append_fresh (T := tabOf Try.prog NT0) (h := H) (t := 63) (tx := 63) (e := 3) (z := 1) (by' := 8) (zv := .lit (.int .i64 0)) (M := L) (p := p) (x := v) (by kernel_rfl) (by kernel_rfl) (by kernel_rfl) (by kernel_rfl) (by kernel_rfl) rfl (by decide) (by decide) hp
      h1.src h1.len h4.lens h4.ones (by omega) (by rw [e0]; exact hl) with ⟨hM, ha⟩ | ⟨hM, ha⟩
  · subst hM
    obtain rfl : xs = [] := List.eq_nil_of_length_eq_zero (by rw [← e0]; rfl)
    exact ⟨_, _, ha, .inr ⟨rfl, p, hp0, rfl, hp⟩, Ext.refl _ _⟩
  · refine ⟨_, _, ha, .inl ⟨L, ⟨h4.lens, .inr ⟨H.n, rfl, hn0, at_push_n _ _⟩⟩, ⟨e0, fun i c x a b => ?_⟩⟩, (Ext.refl _ _).push _ (Nat.le_refl _)⟩
    obtain ⟨rfl, hx⟩ := RInt_is.1 (h4.2 i c x a b)
    exact RInt_is.2 ⟨rfl, hx⟩
theorem clone_o {F : Nat → Prop} {H : AH} {v : AV} {xs : List Int} (hv : IsSl RInt F H v xs) (hl : xs.length * 8 ≤ 140737488355328) :
    WC Try.prog (tabOf Try.prog NT0) S0 88 [v] H fun r h' => Ext H.n H h' ∧ DnI H.n h' r xs := by
  refine WC_fn Try.func88 rfl rfl ?_
  have s1 := hv.isSl
  have s2 := hv.lenD
  simp only [core, Nat.reduceAdd, Nat.reduceSub, Nat.reduceMul, Nat.reduceLT, Nat.reduceEqDiff, reduceCtorEq, Nat.reduceLeDiff, Int.reduceLE, Int.reduceLT, Int.reduceToNat, Try.ntmps88, s1, s2]
  refine ⟨fun he => ?_, fun he => ?_⟩
  · obtain rfl := hv.empty he
    exact ⟨Ext.refl _ _, .inl OwnL.nil⟩
  · have hv2 : IsSl RInt F (H.push (.cells [] 3)) v xs := hv.ext ((Ext.refl H.n H).push _ (Nat.le_refl _)) (Nat.le_refl _)
    refine WOp_app (dn_ints (n0 := H.n) hv2 hl (at_push_n H _) (Nat.le_refl _) (by rw [n_push]; omega)) ?_
    rintro s' h' ⟨e1, e2⟩
    simp only [core, Nat.reduceAdd, Nat.reduceSub, Nat.reduceMul, Nat.reduceLT, Nat.reduceEqDiff, reduceCtorEq, Nat.reduceLeDiff, Int.reduceLE, Int.reduceLT, Int.reduceToNat]
    exact ⟨((Ext.refl H.n H).push _ (Nat.le_refl _)).trans (e2.mono (by rw [n_push]; omega)), e1⟩
theorem DnI.lt {n0 : Nat} {h : AH} {d : AV} {xs : List Int} (hd : DnI n0 h d xs) {b : Nat} (hb : h.n ≤ b) : Apart d b := by
  rcases hd with ho | ⟨rfl, p, hp, rfl, hat⟩
  · exact ho.apart hb
  · have := at_lt hat
    exact fun off n cap e => by cases e; omega
/-- Is an osd of a map there and up? -/
def upM (m : MapD) (o : Int) : Bool := match m.osds[o.toNat]? with
  | some y => y.ex && y.up
  | none => false
def askS (les : Int) (xs : List IvD) (m : MapD) (j : Nat) : List Int := ((priorF les xs).take j).flatMap fun x => x.acting.filter (upM m)
def askG (les : Int) (xs : List IvD) (m : MapD) : List Int := match xs.getLast? with
  | none => []
  | some y => cmpI (srtI (y.acting ++ askS les xs m (priorF les xs).length))
theorem askS_succ {les : Int} {xs : List IvD} {m : MapD} {j : Nat} {x : IvD} (hx : (priorF les xs)[j]? = some x) : askS les xs m (j + 1) = askS les xs m j ++ x.acting.filter (upM m) := by
  unfold askS
  rw [List.take_add_one, hx, List.flatMap_append]
  simp
theorem ivs_nat {pool seed : Int} {ms : List MapD} : ∀ x ∈ ivsF pool seed ms, ∀ o ∈ x.acting, ∃ k : Nat, o = (k : Int) := fun x hx o ho => by
  unfold ivsF at hx
  obtain ⟨r, -, rfl⟩ := List.mem_map.1 hx
  unfold ivOf at ho
  obtain ⟨k, y, hk, -⟩ := able_inv (actF_able o ho)
  exact ⟨k, hk⟩
theorem cmp_nil : cmpI (srtI []) = [] := by
  have : srtI [] = [] := by unfold srtI; simp
  rw [this]
  rfl
/-- Sorted, and without what stands twice. -/
theorem srt_cmp {H : AH} {n0 : Nat} {d : AV} {L : List Int} (hd : DnI n0 H d L) (hl : L.length ≤ 4611686018427387903) (hI : ∀ x ∈ L, I64 x) {Q : AV → AH → Prop}
    (hq : ∀ r h', Ext n0 H h' → IsSl RInt (fun b => n0 ≤ b) h' r (cmpI (srtI L)) → Q r h') :
    WC Try.prog (tabOf Try.prog NT0) S0 89 [d] H fun r h1 => r = .tup [] ∧ WC Try.prog (tabOf Try.prog NT0) S0 90 [d] h1 Q := by
  rcases hd with ho | ⟨rfl, p, hp, rfl, hat⟩
  · by_cases hne : L = []
    · subst hne
      obtain ⟨L', h1', h2'⟩ := ho
      have hL : L' = [] := List.eq_nil_of_length_eq_zero h2'.1
      subst hL
      rcases h1'.2 with ⟨rfl, _⟩ | ⟨p, rfl, hp, hat⟩
      · refine sort_nil_c ⟨rfl, ?_⟩
        refine compact_nil_c (hq _ _ (Ext.refl _ _) ?_)
        rw [cmp_nil]
        exact IsSl.nil
      · refine sort_zero_c ⟨rfl, ?_⟩
        refine compact_zero_c (hq _ _ (Ext.refl _ _) ?_)
        have hat' : H.at p = some (.cells (iL []) 3) := hat
        rw [cmp_nil]
        exact (OwnL.ofInts (n0 := n0) (G := fun _ => False) hp hat' (fun y hy => by cases hy)).toSl (fun _ hf => hf.elim) (fun b hb => hb)
    · obtain ⟨p, rfl, hp, hat, -⟩ := ho.ints hne
      refine sort_c hat hne hl ⟨rfl, ?_⟩
      obtain ⟨h2, hh2⟩ : ∃ h2, h2 = H.put p (.cells (iL (srtI L)) 3) := ⟨_, rfl⟩
      have hat2 : h2.at p = some (.cells (iL (srtI L)) 3) := hh2 ▸ at_put_same _ (at_lt hat)
      have E2 : Ext n0 H h2 := hh2 ▸ (Ext.refl _ _).put _ hp
      rw [← hh2]
      clear hh2
      have hsl : (srtI L).length = L.length := by unfold srtI; simp
      have hne2 : srtI L ≠ [] := fun hh => hne (List.eq_nil_of_length_eq_zero (by rw [← hsl, hh]; rfl))
      have hI2 : ∀ x ∈ cmpO (srtI L), I64 x := fun x hx => by
        unfold cmpO at hx
        rcases List.mem_append.1 hx with hx | hx
        · refine hI x ?_
          have : x ∈ srtI L := by
            unfold cmpI Lib.compact Lib.compactUpTo at hx
            obtain ⟨j, hj, rfl⟩ := List.mem_map.1 hx
            have hj := List.mem_range.1 (List.mem_filter.1 hj).1
            rw [show (srtI L).toArray[j]! = (srtI L)[j] by simp [List.getElem!_eq_getElem?_getD, hj]]
            exact List.getElem_mem _
          unfold srtI at this
          exact (List.mergeSort_perm _ _).mem_iff.1 this
        · obtain ⟨-, rfl⟩ := List.mem_replicate.1 hx
          exact ⟨by decide, by decide⟩
      rw [← hsl]
      refine compact_c hat2 hne2 (by omega) (hq _ _ (E2.put _ hp) ?_)
      have hat3 := at_put_same (.cells (iL (cmpO (srtI L))) 3) (at_lt hat2)
      have ho3 := (OwnL.ofInts (n0 := n0) (G := fun _ => False) hp hat3 hI2).toSl (F := fun b => n0 ≤ b) (fun _ hf => hf.elim) (fun b hb => hb)
      have hcl := cmpI_le (srtI L)
      have hs := ho3.sub (l := 0) (r := (cmpI (srtI L)).length) (by omega) (by rw [cmpO_len]; exact hcl)
      have e1 : ((cmpO (srtI L)).take (cmpI (srtI L)).length).drop 0 = cmpI (srtI L) := by
        unfold cmpO
        rw [List.drop_zero, List.take_append_of_le_length (Nat.le_refl _), List.take_length]
      rw [e1] at hs
      have e2 : subSl RInt.z 0 (cmpI (srtI L)).length (.sl p 0 (cmpO (srtI L)).length (.un 1)) = .sl p 0 (cmpI (srtI L)).length (.un 1) := by simp [subSl, subCap]
      rw [e2] at hs
      exact hs
  · refine sort_zero_c ⟨rfl, ?_⟩
    refine compact_zero_c (hq _ _ (Ext.refl _ _) ?_)
    rw [cmp_nil]
    exact (DnI.toSl (.inr ⟨rfl, p, hp, rfl, hat⟩) (fun b hb => hb) : IsSl RInt (fun b => n0 ≤ b) H (.sl p 0 0 (.kn 0)) [])
theorem IsSl.ldF {α : Type} {R : Rep α} {T : TT} {F : Nat → Prop} {H h : AH} {v : AV} {xs : List α} (hs : IsSl R F H v xs) (h0 : 0 < xs.length) (hk : ∀ b, F b → b < H.n → h.at b = H.at b) : ∀ e off, loadA T h e (slB v) off = loadA T H e (slB v) off := fun e off => by
  obtain ⟨L, h1, hf, _, h3⟩ := hs.out
  rcases h1.2 with ⟨rfl, rfl⟩ | ⟨b, o, cap, row, rfl, h4, h5⟩
  · have := h3.1
    simp at this
    omega
  · have := hk b (hf _ _ _ _ rfl) (getR_lt h4)
    simp only [slB, loadA, getR, this]
theorem ask_x {F : Nat → Prop} {H : AH} {v : AV} {ms : List MapD} (pool seed les : Int) (hv : IsSl RMp F H v ms) (hl : Sm 88 ms) (hok : ∀ m ∈ ms, OkMp m) :
    WC Try.prog (tabOf Try.prog NT0) S0 41 [v, pgV pool seed, .lit (.int .i64 les)] H fun r h' => Ext H.n H h' ∧ IsSl RInt (fun b => H.n ≤ b) h' r (askG les (ivsF pool seed ms) (ms.getD (ms.length - 1) map0)) := by
  refine WC_fn Try.func41 rfl rfl ?_
  have hl' := hl
  unfold Sm at hl'
  have s1 := hv.isSl
  have s2 := hv.lenD
  simp only [core, Nat.reduceAdd, Nat.reduceSub, Nat.reduceMul, Nat.reduceLT, Nat.reduceEqDiff, reduceCtorEq, Nat.reduceLeDiff, Int.reduceLE, Int.reduceLT, Int.reduceToNat, Try.ntmps41, pgV, s1, s2]
  obtain ⟨h1, hh1⟩ : ∃ h1, h1 = H.push (pgB pool seed) := ⟨_, rfl⟩
  have E1 : Ext H.n H h1 := hh1 ▸ (Ext.refl _ _).push _ (Nat.le_refl _)
  unfold pgB at hh1
  rw [← hh1]
  clear hh1
  refine (all_x pool seed (hv.ext E1 (Nat.le_refl _)) hl hok).mono ?_
  rintro r h2 ⟨e2, n0, hn0, hown⟩
  have E2 := E1.step e2
  have hil := ivsF_len (pool := pool) (seed := seed) (ms := ms)
  have hac := fun x hx => ivs_ok (pool := pool) (seed := seed) (ms := ms) x hx
  have hnat := fun x hx => ivs_nat (pool := pool) (seed := seed) (ms := ms) x hx
  have hnil : ms = [] → ivsF pool seed ms = [] := fun h => by subst h; rfl
  generalize ivsF pool seed ms = xs at hown hil hac hnat hnil
  have r1 := hown.isSl
  have r2 := hown.lenD
  have hr := hown.toSl (F := fun b => H.n ≤ b) (fun b hb => Nat.le_trans E1.1 (Nat.le_trans hn0 hb)) (fun b hb => Nat.le_trans E1.1 (Nat.le_trans hn0 hb))
  simp only [core, Nat.reduceAdd, Nat.reduceSub, Nat.reduceMul, Nat.reduceLT, Nat.reduceEqDiff, reduceCtorEq, Nat.reduceLeDiff, Int.reduceLE, Int.reduceLT, Int.reduceToNat, r1, r2]
  refine ⟨fun he => ?_, fun he => ?_⟩
  · obtain rfl : xs = [] := List.eq_nil_of_length_eq_zero (by have := eq_of_beq he; omega)
    exact ⟨E2, IsSl.nil⟩
  have hpos : 0 < xs.length := by have := beq_eq_false_iff_ne.1 he; omega
  have hmp : 0 < ms.length := List.length_pos_iff.2 fun hh => by rw [hnil hh] at hpos; simp at hpos
  obtain ⟨y, hy⟩ : ∃ y, xs[xs.length - 1]? = some y := ⟨_, List.getElem?_eq_getElem (by omega)⟩
  have hlast : xs.getLast? = some y := by rw [List.getLast?_eq_getElem?]; exact hy
  obtain ⟨m, hm⟩ : ∃ m, ms[ms.length - 1]? = some m := ⟨_, List.getElem?_eq_getElem (by omega)⟩
  have hmd : ms.getD (ms.length - 1) map0 = m := by rw [List.getD_eq_getElem?_getD, hm]; rfl
  have hlt1 : ms.length - 1 < ms.length := by omega
  have hw1 : IntKind.i64.wrap ((ms.length : Int) - 1) = ((ms.length - 1 : Nat) : Int) := (wrap_in (by omega) (by omega)).trans (by omega)
  have hlt2 : xs.length - 1 < xs.length := by omega
  have hw2 : IntKind.i64.wrap ((xs.length : Int) - 1) = ((xs.length - 1 : Nat) : Int) := (wrap_in (by omega) (by omega)).trans (by omega)
  obtain ⟨c, hc1, hld, hld0⟩ := hv.atE (T := tabOf Try.prog NT0) E2 RMp_z hm
  obtain ⟨vo, vp, vb, rfl, m1, m2, m3, -⟩ := RMp_is.1 hc1
  have i1 := m1.one
  have i2 := m2.one
  have i3 := m3.one
  have j1 := m1.isSl
  have k1 := m1.lenD
  obtain ⟨c, hcy, hldy, hldy0⟩ := hr.at (T := tabOf Try.prog NT0) RIv_z hy
  obtain ⟨ya, yb, rfl, hya, hyb, -, -⟩ := RIv_is.1 hcy
  have ldP := fun X => hr.ldE (T := tabOf Try.prog NT0) hpos ((Ext.refl h2.n h2).push X (Nat.le_refl _))
  have y1 := hya.isSl
  simp only [core, Nat.reduceAdd, Nat.reduceSub, Nat.reduceMul, Nat.reduceLT, Nat.reduceEqDiff, reduceCtorEq, Nat.reduceLeDiff, Int.reduceLE, Int.reduceLT, Int.reduceToNat, s1, s2, r1, r2, hlt1, hw1, hlt2, hw2, hld, hld0, i1, i2, i3, ldP, hldy, hldy0, y1]
  obtain ⟨h3, hh3⟩ : ∃ h3, h3 = h2.push (.cells [.lit (.int .i64 m.epoch), vo, vp, vb, .lit (.int .i64 m.leaf)] 31) := ⟨_, rfl⟩
  have e3 : Ext h2.n h2 h3 := hh3 ▸ (Ext.refl _ _).push _ (Nat.le_refl _)
  have B3 : h3.at h2.n = some (.cells [.lit (.int .i64 m.epoch), vo, vp, vb, .lit (.int .i64 m.leaf)] 31) := hh3 ▸ at_push_n _ _
  rw [← hh3]
  clear hh3
  have E3 := E2.step e3
  have hyac := hac y (List.mem_of_getElem? hy)
  refine (clone_o (hya.ext e3 (Nat.le_refl _)) (by omega)).mono ?_
  rintro d h4 ⟨e4, hd⟩
  have E4 := E3.step e4
  have d1 := (hd.toSl (F := fun _ => True) (fun _ _ => trivial)).isSl
  simp only [core, Nat.reduceAdd, Nat.reduceSub, Nat.reduceMul, Nat.reduceLT, Nat.reduceEqDiff, reduceCtorEq, Nat.reduceLeDiff, Int.reduceLE, Int.reduceLT, Int.reduceToNat, r1, d1]
  refine (prior_x les (hr.ext (e3.step e4) (Nat.le_refl _)) (by omega) (fun z hz => by have := hac z hz; omega)).mono ?_
  rintro q h5 ⟨e5, hq⟩
  have E5 := E4.step e5
  have q1 := hq.isSl
  have q2 := hq.lenD
  have e45 := e4.step e5
  have B5 := (e45.2 _ (at_lt B3)).trans B3
  have hpl : (priorF les xs).length ≤ xs.length := by
    have := List.length_filter_le (askF les) xs.dropLast
    rw [List.length_dropLast] at this
    exact Nat.le_trans this (by omega)
  have hb3 := at_lt B3
  have hn34 := e4.1
  have hn45 := e5.1
  have hdA : ∀ b, b < h5.n → h4.n ≤ b → Apart d b := fun b _ hb => hd.lt hb
  simp only [core, Nat.reduceAdd, Nat.reduceSub, Nat.reduceMul, Nat.reduceLT, Nat.reduceEqDiff, reduceCtorEq, Nat.reduceLeDiff, Int.reduceLE, Int.reduceLT, Int.reduceToNat, r1, q1, q2]
  refine WB_for (priorF les xs).length (fun j t h => (∃ d L, L = y.acting ++ askS les xs m j ∧ L.length ≤ 8 + 8 * j ∧ (∀ o ∈ L, I64 o) ∧ DnI h3.n h d L ∧ h5.n ≤ h.n ∧ (∀ b, b < h5.n → (b < h3.n ∨ h4.n ≤ b) → h.at b = h5.at b) ∧ (∀ b, b < h5.n → h4.n ≤ b → Apart d b) ∧ t.get 9 = d) ∧ t.n = 80 ∧ t.get 8 = .ptr h2.n 0 ∧ t.get 36 = q ∧ t.get 37 = .lit (.int .i64 (priorF les xs).length) ∧ t.get 38 = .lit (.int .i64 j)) ?_ ?_ _ _ ?_
  · rintro j t h hlt hc ⟨⟨d, L, hL, hLl, hLI, hd, n5, k5, kA, g9⟩, hn, g8, g36, g37, g38⟩ ih
    obtain ⟨x, hx⟩ : ∃ x, (priorF les xs)[j]? = some x := ⟨_, List.getElem?_eq_getElem hlt⟩
    have hxm : x ∈ xs := List.dropLast_subset _ (List.mem_filter.1 (List.mem_of_getElem? hx)).1
    have ldq := hq.ldF (T := tabOf Try.prog NT0) (h := h) (by omega) (fun b hb hlt => k5 b hlt (.inr hb))
    obtain ⟨c, hc1, hld, hld0⟩ := hq.at (T := tabOf Try.prog NT0) RIv_z hx
    obtain ⟨xa, xb, rfl, hxa, hxb, -, -⟩ := RIv_is.1 hc1
    have a1 := hxa.one
    have b1 := hxb.one
    have a2 := hxa.isSl
    have a3 := hxa.lenD
    have hxac := hac x hxm
    have hw := wrap_succ hlt (by omega)
    simp only [core, Nat.reduceAdd, Nat.reduceSub, Nat.reduceMul, Nat.reduceLT, Nat.reduceEqDiff, reduceCtorEq, Nat.reduceLeDiff, Int.reduceLE, Int.reduceLT, Int.reduceToNat, hn, g8, g36, g37, g38, g9, hlt, hc, q1, q2, ldq, hld, hld0, a1, b1, a2, a3]
    have hnx := hnat x hxm
    have hil5 := hil
    refine WB_for x.acting.length (fun k t h => (∃ d L, L = y.acting ++ askS les xs m j ++ (x.acting.take k).filter (upM m) ∧ L.length ≤ 8 + 8 * j + k ∧ (∀ o ∈ L, I64 o) ∧ DnI h3.n h d L ∧ h5.n ≤ h.n ∧ (∀ b, b < h5.n → (b < h3.n ∨ h4.n ≤ b) → h.at b = h5.at b) ∧ (∀ b, b < h5.n → h4.n ≤ b → Apart d b) ∧ t.get 9 = d) ∧ t.n = 80 ∧ t.get 8 = .ptr h2.n 0 ∧ t.get 36 = q ∧ t.get 37 = .lit (.int .i64 (priorF les xs).length) ∧ t.get 38 = .lit (.int .i64 j) ∧ t.get 43 = xa ∧ t.get 44 = .lit (.int .i64 x.acting.length) ∧ t.get 45 = .lit (.int .i64 k)) ?_ ?_ _ _ ?_
    · rintro k t h hlt3 hc3 ⟨⟨d, L, hL, hLl, hLI, hd, n5, k5, kA, g9⟩, hn, g8, g36, g37, g38, g43, g44, g45⟩ ih2
      obtain ⟨o, ho⟩ : ∃ o, x.acting[k]? = some o := ⟨_, List.getElem?_eq_getElem hlt3⟩
      obtain ⟨kk, rfl⟩ := hnx o (List.mem_of_getElem? ho)
      have hgd : x.acting.getD k 0 = (kk : Int) := by rw [List.getD_eq_getElem?_getD, ho]; rfl
      have hxh : IsSl RInt (fun _ => True) h xa x.acting := hxa.lift fun b hb hlt => ⟨k5 b hlt (.inr hb), trivial⟩
      have hldo := hxh.int (T := tabOf Try.prog NT0) (e := 3) (by kernel_rfl) (by kernel_rfl) hlt3
      rw [hgd] at hldo
      have I1 : I64 (kk : Int) := by have := hxh.i64 k hlt3; rw [hgd] at this; exact this
      have hw3 := wrap_succ hlt3 (by omega)
      have B := (k5 _ (by have := e45.1; omega) (.inl hb3)).trans B5
      have lb := at_lt B
      have LB := ld_at (T := tabOf Try.prog NT0) B
      have hflt : (x.acting.take (k + 1)).filter (upM m) = (x.acting.take k).filter (upM m) ++ (if upM m kk = true then [(kk : Int)] else []) := by
        rw [List.take_add_one, ho, List.filter_append]
        congr 1
        cases hh : upM m kk <;> simp [hh]
      have hup : upM m kk = (match m.osds[kk]? with | some z => z.ex && z.up | none => false) := rfl
      have hd1 := (hd.toSl (F := fun _ => True) (fun _ _ => trivial)).isSl
      have hd2 := (hd.toSl (F := fun _ => True) (fun _ _ => trivial)).one
      have EHh : Ext H.n H h := ⟨by have := E5.1; omega, fun b hb => (k5 b (by have := E5.1; omega) (.inl (by have := E3.1; omega))).trans (E5.2 b hb)⟩
      have skip : upM m kk = false → (y.acting ++ askS les xs m j ++ (x.acting.take (k + 1)).filter (upM m)) = L := fun hh => by rw [hflt, hh, hL]; simp
      by_cases c1 : kk < m.osds.length
      · obtain ⟨z, hz⟩ : ∃ z, m.osds[kk]? = some z := ⟨_, List.getElem?_eq_getElem c1⟩
        rw [hz] at hup
        have hup : upM m kk = (z.ex && z.up) := hup
        obtain ⟨cz, hcz, hldz, hldz0⟩ := m1.atE (T := tabOf Try.prog NT0) EHh ROsd_z hz
        obtain ⟨rfl, -⟩ := ROsd_is.1 hcz
        have hc1 : ((kk : Int) < (m.osds.length : Int)) = True := by simp only [eq_iff_iff, iff_true]; omega
        by_cases hex : z.ex = true
        case neg =>
          have hex : z.ex = false := by simpa using hex
          simp only [core, Nat.reduceAdd, Nat.reduceSub, Nat.reduceMul, Nat.reduceLT, Nat.reduceEqDiff, reduceCtorEq, Nat.reduceLeDiff, Int.reduceLE, Int.reduceLT, Int.reduceToNat, hn, g8, g36, g37, g38, g43, g44, g45, g9, hlt3, hc3, hw3, hldo, a2, a3, LB, lb, j1, k1, c1, hc1, hldz, hldz0, hex, aundef]
          refine ih2 _ _ ⟨⟨d, L, (skip (by rw [hup, hex]; rfl)).symm, by omega, hLI, hd, n5, k5, kA, by simp only [core, Nat.reduceAdd, Nat.reduceSub, Nat.reduceMul, Nat.reduceLT, Nat.reduceEqDiff, reduceCtorEq, Nat.reduceLeDiff, Int.reduceLE, Int.reduceLT, Int.reduceToNat, g9]⟩, by simp only [core, Nat.reduceAdd, Nat.reduceSub, Nat.reduceMul, Nat.reduceLT, Nat.reduceEqDiff, reduceCtorEq, Nat.reduceLeDiff, Int.reduceLE, Int.reduceLT, Int.reduceToNat, hn, g8, g36, g37, g38, g43, g44, g45]⟩
        by_cases hu : z.up = true
        case neg =>
          have hu : z.up = false := by simpa using hu
          simp only [core, Nat.reduceAdd, Nat.reduceSub, Nat.reduceMul, Nat.reduceLT, Nat.reduceEqDiff, reduceCtorEq, Nat.reduceLeDiff, Int.reduceLE, Int.reduceLT, Int.reduceToNat, hn, g8, g36, g37, g38, g43, g44, g45, g9, hlt3, hc3, hw3, hldo, a2, a3, LB, lb, j1, k1, c1, hc1, hldz, hldz0, hex, hu, aundef]
          refine ih2 _ _ ⟨⟨d, L, (skip (by rw [hup, hex, hu]; rfl)).symm, by omega, hLI, hd, n5, k5, kA, by simp only [core, Nat.reduceAdd, Nat.reduceSub, Nat.reduceMul, Nat.reduceLT, Nat.reduceEqDiff, reduceCtorEq, Nat.reduceLeDiff, Int.reduceLE, Int.reduceLT, Int.reduceToNat, g9]⟩, by simp only [core, Nat.reduceAdd, Nat.reduceSub, Nat.reduceMul, Nat.reduceLT, Nat.reduceEqDiff, reduceCtorEq, Nat.reduceLeDiff, Int.reduceLE, Int.reduceLT, Int.reduceToNat, hn, g8, g36, g37, g38, g43, g44, g45]⟩
        have hupt : upM m kk = true := by rw [hup, hex, hu]; rfl
        simp only [core, Nat.reduceAdd, Nat.reduceSub, Nat.reduceMul, Nat.reduceLT, Nat.reduceEqDiff, reduceCtorEq, Nat.reduceLeDiff, Int.reduceLE, Int.reduceLT, Int.reduceToNat, hn, g8, g36, g37, g38, g43, g44, g45, g9, hlt3, hc3, hw3, hldo, a2, a3, LB, lb, j1, k1, c1, hc1, hldz, hldz0, hex, hu, d1, hd1, hd2, aundef]
        obtain ⟨h6, hh6⟩ : ∃ h6, h6 = h.push (.cells [.lit (.int .i64 (kk : Int))] 3) := ⟨_, rfl⟩
        have e6 : Ext h.n h h6 := hh6 ▸ (Ext.refl _ _).push _ (Nat.le_refl _)
        have A6 : h6.at h.n = some (.cells [.lit (.int .i64 (kk : Int))] 3) := hh6 ▸ at_push_n _ _
        rw [← hh6]
        clear hh6
        have he6 := e6.1
        refine WOp_app ((hd.ext e6 (Nat.le_refl _)).snoc A6 I1 (by omega) (by omega)) ?_
        rintro s7 h7 ⟨hd7, e7, k7⟩
        have he7 := e7.1
        have s71 := (hd7.toSl (F := fun _ => True) (fun _ _ => trivial)).isSl
        simp only [core, Nat.reduceAdd, Nat.reduceSub, Nat.reduceMul, Nat.reduceLT, Nat.reduceEqDiff, reduceCtorEq, Nat.reduceLeDiff, Int.reduceLE, Int.reduceLT, Int.reduceToNat, hn, g8, g36, g37, g38, g43, g44, g45, hw3, s71]
        refine ih2 _ _ ⟨⟨s7, L ++ [(kk : Int)], ?_, by rw [List.length_append]; show L.length + 1 ≤ _; omega, ?_, hd7, by omega, fun b hb hbb => ?_, fun b hb hbb => ?_, by simp only [core, Nat.reduceAdd, Nat.reduceSub, Nat.reduceMul, Nat.reduceLT, Nat.reduceEqDiff, reduceCtorEq, Nat.reduceLeDiff, Int.reduceLE, Int.reduceLT, Int.reduceToNat, hn, g8, g36, g37, g38, g43, g44, g45]⟩, by simp only [core, Nat.reduceAdd, Nat.reduceSub, Nat.reduceMul, Nat.reduceLT, Nat.reduceEqDiff, reduceCtorEq, Nat.reduceLeDiff, Int.reduceLE, Int.reduceLT, Int.reduceToNat, hn, g8, g36, g37, g38, g43, g44, g45]⟩
        · rw [hflt, if_pos hupt, hL, List.append_assoc]
        · intro o' ho'
          rcases List.mem_append.1 ho' with ho' | ho'
          · exact hLI o' ho'
          · rw [List.mem_singleton] at ho'; rw [ho']; exact I1
        · rcases hbb with hbb | hbb
          · exact (e7.2 b hbb).trans ((e6.2 b (by omega)).trans (k5 b hb (.inl hbb)))
          · exact (k7 b (by omega) (kA b hb hbb)).1.trans ((e6.2 b (by omega)).trans (k5 b hb (.inr hbb)))
        · exact (k7 b (by omega) (kA b hb hbb)).2
      · have hc1 : ((kk : Int) < (m.osds.length : Int)) = False := by simp only [eq_iff_iff, iff_false]; omega
        have hno : m.osds[kk]? = none := List.getElem?_eq_none (by omega)
        rw [hno] at hup
        simp only [core, Nat.reduceAdd, Nat.reduceSub, Nat.reduceMul, Nat.reduceLT, Nat.reduceEqDiff, reduceCtorEq, Nat.reduceLeDiff, Int.reduceLE, Int.reduceLT, Int.reduceToNat, hn, g8, g36, g37, g38, g43, g44, g45, g9, hlt3, hc3, hw3, hldo, a2, a3, LB, lb, j1, k1, hc1, aundef]
        refine ih2 _ _ ⟨⟨d, L, (skip hup).symm, by omega, hLI, hd, n5, k5, kA, by simp only [core, Nat.reduceAdd, Nat.reduceSub, Nat.reduceMul, Nat.reduceLT, Nat.reduceEqDiff, reduceCtorEq, Nat.reduceLeDiff, Int.reduceLE, Int.reduceLT, Int.reduceToNat, g9]⟩, by simp only [core, Nat.reduceAdd, Nat.reduceSub, Nat.reduceMul, Nat.reduceLT, Nat.reduceEqDiff, reduceCtorEq, Nat.reduceLeDiff, Int.reduceLE, Int.reduceLT, Int.reduceToNat, hn, g8, g36, g37, g38, g43, g44, g45]⟩
    · rintro t h hc3 ⟨⟨d, L, hL, hLl, hLI, hd, n5, k5, kA, g9⟩, hn, g8, g36, g37, g38, g43, g44, g45⟩
      rw [List.take_length] at hL
      simp only [core, Nat.reduceAdd, Nat.reduceSub, Nat.reduceMul, Nat.reduceLT, Nat.reduceEqDiff, reduceCtorEq, Nat.reduceLeDiff, Int.reduceLE, Int.reduceLT, Int.reduceToNat, hn, g8, g36, g37, g38, g43, g44, g45, g9, hc3, hw]
      refine ih _ _ ⟨⟨d, L, by rw [hL, askS_succ hx, List.append_assoc], by omega, hLI, hd, n5, k5, kA, by simp only [core, Nat.reduceAdd, Nat.reduceSub, Nat.reduceMul, Nat.reduceLT, Nat.reduceEqDiff, reduceCtorEq, Nat.reduceLeDiff, Int.reduceLE, Int.reduceLT, Int.reduceToNat, g9]⟩, by simp only [core, Nat.reduceAdd, Nat.reduceSub, Nat.reduceMul, Nat.reduceLT, Nat.reduceEqDiff, reduceCtorEq, Nat.reduceLeDiff, Int.reduceLE, Int.reduceLT, Int.reduceToNat, hn, g8, g36, g37, g38, g43, g44, g45]⟩
    · have e6 : Ext h.n h (h.push (.cells [.lit (.int .i64 x.first), .lit (.int .i64 x.last), xa, xb, .lit (.bool x.mayRw)] 65)) := (Ext.refl _ _).push _ (Nat.le_refl _)
      refine ⟨⟨d, L, by rw [hL]; simp, by omega, hLI, hd.ext e6 (Nat.le_refl _), Nat.le_trans n5 e6.1, fun b hb hbb => (e6.2 b (by omega)).trans (k5 b hb hbb), kA, by simp only [core, Nat.reduceAdd, Nat.reduceSub, Nat.reduceMul, Nat.reduceLT, Nat.reduceEqDiff, reduceCtorEq, Nat.reduceLeDiff, Int.reduceLE, Int.reduceLT, Int.reduceToNat, hn, g8, g36, g37, g38, g9]⟩, by simp only [core, Nat.reduceAdd, Nat.reduceSub, Nat.reduceMul, Nat.reduceLT, Nat.reduceEqDiff, reduceCtorEq, Nat.reduceLeDiff, Int.reduceLE, Int.reduceLT, Int.reduceToNat, hn, g8, g36, g37, g38, g9]; rfl⟩
  · rintro t h hc ⟨⟨d, L, hL, hLl, hLI, hd, n5, k5, kA, g9⟩, hn, g8, g36, g37, g38⟩
    have d1 := (hd.toSl (F := fun _ => True) (fun _ _ => trivial)).isSl
    have EHh : Ext H.n H h := ⟨by have := E5.1; omega, fun b hb => (k5 b (by have := E5.1; omega) (.inl (by have := E3.1; omega))).trans (E5.2 b hb)⟩
    simp only [core, Nat.reduceAdd, Nat.reduceSub, Nat.reduceMul, Nat.reduceLT, Nat.reduceEqDiff, reduceCtorEq, Nat.reduceLeDiff, Int.reduceLE, Int.reduceLT, Int.reduceToNat, hn, g8, g36, g37, g38, g9, hc, d1]
    refine (srt_cmp hd (by omega) hLI (Q := fun r h' => Ext h3.n h h' ∧ IsSl RInt (fun b => h3.n ≤ b) h' r (cmpI (srtI L))) (fun r h' a b => ⟨a, b⟩)).mono ?_
    rintro _ h8 ⟨rfl, hw8⟩
    simp only [core, Nat.reduceAdd, Nat.reduceSub, Nat.reduceMul, Nat.reduceLT, Nat.reduceEqDiff, reduceCtorEq, Nat.reduceLeDiff, Int.reduceLE, Int.reduceLT, Int.reduceToNat, hn, g8, g36, g37, g38, g9, d1]
    refine hw8.mono ?_
    rintro rr h9 ⟨e9, hrr⟩
    have rr1 := hrr.isSl
    simp only [core, Nat.reduceAdd, Nat.reduceSub, Nat.reduceMul, Nat.reduceLT, Nat.reduceEqDiff, reduceCtorEq, Nat.reduceLeDiff, Int.reduceLE, Int.reduceLT, Int.reduceToNat, hn, g8, g36, g37, g38, g9, rr1]
    have hn3 := E3.1
    refine ⟨EHh.trans (e9.mono hn3), ?_⟩
    unfold askG
    rw [hmd, hlast]
    show IsSl RInt _ h9 rr (cmpI (srtI (y.acting ++ askS les xs m (priorF les xs).length)))
    rw [← hL]
    exact hrr.lift fun b hb _ => ⟨rfl, by omega⟩
  · refine ⟨⟨d, y.acting, by unfold askS; simp, by omega, fun o ho => ?_, hd.ext e5 (Nat.le_refl _), Nat.le_refl _, fun b hb _ => rfl, hdA, by simp only [core, Nat.reduceAdd, Nat.reduceSub, Nat.reduceMul, Nat.reduceLT, Nat.reduceEqDiff, reduceCtorEq, Nat.reduceLeDiff, Int.reduceLE, Int.reduceLT, Int.reduceToNat]⟩, by simp only [core, Nat.reduceAdd, Nat.reduceSub, Nat.reduceMul, Nat.reduceLT, Nat.reduceEqDiff, reduceCtorEq, Nat.reduceLeDiff, Int.reduceLE, Int.reduceLT, Int.reduceToNat]; rfl⟩
    obtain ⟨i, hi, rfl⟩ := List.mem_iff_getElem.1 ho
    have := hya.i64 i hi
    rw [List.getD_eq_getElem?_getD, List.getElem?_eq_getElem hi] at this
    exact this
end Go.Proofs.Ytkgbeihcepociaa.Ex
end

section

set_option linter.unusedSimpArgs false
set_option linter.unusedVariables false
set_option maxRecDepth 10000
namespace Go.Proofs.Ytkgbeihcepociaa.Ex
open Go
/-! What compact keeps. -/
theorem cmp_sub {xs : List Int} {x : Int} (hx : x ∈ cmpI xs) : x ∈ xs := by
  unfold cmpI Lib.compact Lib.compactUpTo at hx
  obtain ⟨j, hj, rfl⟩ := List.mem_map.1 hx
  have hj := List.mem_range.1 (List.mem_filter.1 hj).1
  rw [show xs.toArray[j]! = xs[j] by simp [List.getElem!_eq_getElem?_getD, hj]]
  exact List.getElem_mem _
theorem cmp_all {xs : List Int} {x : Int} (hx : x ∈ xs) : x ∈ cmpI xs := by
  have key : ∀ m, m ≤ xs.length → ∀ j, j < m → xs.toArray[j]! ∈ Lib.compactUpTo xs.toArray m := fun m => by
    induction m with
    | zero => intro _ j hj; omega
    | succ m ih =>
      intro hm j hj
      rw [Lib.compactUpTo_succ]
      by_cases hjm : j = m
      · subst hjm
        cases hk : Lib.keeps xs.toArray j with
        | true => simp
        | false =>
          unfold Lib.keeps at hk
          rw [decide_eq_false_iff_not] at hk
          have h0 : ¬ j = 0 := fun h => hk (.inl h)
          have h1 : xs.toArray[j]! = xs.toArray[j - 1]! := Decidable.byContradiction fun h => hk (.inr h)
          rw [h1]
          exact List.mem_append_left _ (ih (by omega) (j - 1) (by omega))
      · exact List.mem_append_left _ (ih (by omega) j (by omega))
  obtain ⟨j, hj, rfl⟩ := List.mem_iff_getElem.1 hx
  have := key xs.length (Nat.le_refl _) j hj
  rw [show xs.toArray[j]! = xs[j] by simp [List.getElem!_eq_getElem?_getD, hj]] at this
  exact this
theorem mem_srt {xs : List Int} {x : Int} : x ∈ srtI xs ↔ x ∈ xs := by
  unfold srtI
  exact (List.mergeSort_perm _ _).mem_iff
theorem mem_sc {xs : List Int} {x : Int} : x ∈ cmpI (srtI xs) ↔ x ∈ xs := ⟨fun h => mem_srt.1 (cmp_sub h), fun h => cmp_all (mem_srt.2 h)⟩
theorem mem_askS {les : Int} {xs : List IvD} {m : MapD} {o : Int} : o ∈ askS les xs m (priorF les xs).length ↔ ∃ x ∈ priorF les xs, o ∈ x.acting ∧ upM m o = true := by
  unfold askS
  rw [List.take_length, List.mem_flatMap]
  simp only [List.mem_filter]
theorem flat8 {m : MapD} : ∀ {l : List IvD}, (∀ x ∈ l, x.acting.length ≤ 8) → (l.flatMap fun x => x.acting.filter (upM m)).length ≤ 8 * l.length
  | [], _ => Nat.zero_le _
  | x :: r, h => by
    have h1 := flat8 (m := m) (l := r) fun y hy => h y (by simp [hy])
    have h2 := h x (by simp)
    have h3 := List.length_filter_le (upM m) x.acting
    rw [List.flatMap_cons, List.length_append, List.length_cons]
    omega
theorem askG_len {les : Int} {xs : List IvD} {m : MapD} (hac : ∀ x ∈ xs, x.acting.length ≤ 8 ∧ x.boots.length ≤ 8) : (askG les xs m).length ≤ 8 + 8 * xs.length := by
  unfold askG
  cases hl : xs.getLast? with
  | none => exact Nat.zero_le _
  | some y =>
    show (cmpI (srtI (y.acting ++ askS les xs m (priorF les xs).length))).length ≤ _
    have h1 := cmpI_le (srtI (y.acting ++ askS les xs m (priorF les xs).length))
    have h2 : (srtI (y.acting ++ askS les xs m (priorF les xs).length)).length = (y.acting ++ askS les xs m (priorF les xs).length).length := by unfold srtI; simp
    have h3 := (hac y (List.mem_of_getLast? hl)).1
    have h4 : (askS les xs m (priorF les xs).length).length ≤ 8 * (priorF les xs).length := by
      unfold askS
      rw [List.take_length]
      exact flat8 fun x hx => (hac x (List.dropLast_subset _ (List.mem_filter.1 hx).1)).1
    have h5 : (priorF les xs).length ≤ xs.length := by
      have := List.length_filter_le (askF les) xs.dropLast
      rw [List.length_dropLast] at this
      exact Nat.le_trans this (by omega)
    rw [List.length_append] at h2
    omega
end Go.Proofs.Ytkgbeihcepociaa.Ex
end

section

set_option linter.unusedSimpArgs false
set_option linter.unusedVariables false
set_option maxRecDepth 10000
set_option maxHeartbeats 4000000
namespace Go.Proofs.Ytkgbeihcepociaa.Ex
open Go
/-- An interval whose osds lie in a row of their own. -/
def RIvC : Rep IvD where
  z := 5
  is F h c x := ∃ va vb, c = [.lit (.int .i64 x.first), .lit (.int .i64 x.last), va, vb, .lit (.bool x.mayRw)] ∧ IsSl RInt F h va x.acting ∧ IsSl RInt F h vb x.boots ∧ I64 x.first ∧ I64 x.last ∧ (x.acting ≠ [] → ∃ b cap, va = .sl b 0 x.acting.length cap ∧ h.at b = some (.cells (iL x.acting) 3))
  len := fun ⟨va, vb, e, _⟩ => by subst e; rfl
  one := fun ⟨va, vb, e, h1, h2, _⟩ v hv => by
    subst e
    simp only [List.mem_cons, List.not_mem_nil, or_false] at hv
    rcases hv with rfl | rfl | rfl | rfl | rfl
    · rfl
    · rfl
    · exact h1.one
    · exact h2.one
    · rfl
  lift := fun ⟨va, vb, e, h1, h2, h3, h4, h5⟩ hh => ⟨va, vb, e, h1.lift hh, h2.lift hh, h3, h4, fun hne => by
    obtain ⟨b, cap, e', hat⟩ := h5 hne
    obtain ⟨L, _, hf, _⟩ := h1.out
    exact ⟨b, cap, e', (hh b (hf _ _ _ _ e') (at_lt hat)).1.trans hat⟩⟩
theorem RIvC.toIv {F : Nat → Prop} {h : AH} {c : List AV} {x : IvD} (hc : RIvC.is F h c x) : RIv.is F h c x := by
  obtain ⟨va, vb, e, h1, h2, h3, h4, -⟩ := hc
  exact RIv_is.2 ⟨va, vb, e, h1, h2, h3, h4⟩
theorem OwnL.toIv {G : Nat → Prop} {n0 : Nat} {h : AH} {v : AV} {e : TypeId} {xs : List IvD} (ho : OwnL RIvC G n0 h v e xs) : OwnL RIv G n0 h v e xs := by
  obtain ⟨L, h1, h2⟩ := ho
  exact ⟨L, h1, h2.1, fun i c x a b => RIvC.toIv (h2.2 i c x a b)⟩
theorem prior_o {F : Nat → Prop} {H : AH} {v : AV} {xs : List IvD} (les : Int) (hv : IsSl RIv F H v xs) (hl : xs.length * 72 ≤ 140737488355328) (hs : ∀ x ∈ xs, x.acting.length * 8 ≤ 140737488355328 ∧ x.boots.length * 8 ≤ 140737488355328) :
    WC Try.prog (tabOf Try.prog NT0) S0 38 [v, .lit (.int .i64 les)] H fun r h' => Ext H.n H h' ∧ OwnL RIvC (fun b => H.n ≤ b) H.n h' r 65 (priorF les xs) := by
  refine WC_fn Try.func38 rfl rfl ?_
  have s1 := hv.isSl
  have s2 := hv.lenD
  simp only [core, Nat.reduceAdd, Nat.reduceSub, Nat.reduceMul, Nat.reduceLT, Nat.reduceEqDiff, reduceCtorEq, Nat.reduceLeDiff, Int.reduceLE, Int.reduceLT, Int.reduceToNat, Try.ntmps38, s1, s2]
  refine WB_for xs.length (fun i t h => ∃ o, OwnL RIvC (fun b => H.n ≤ b) H.n h o 65 ((xs.dropLast.take i).filter (askF les)) ∧ Ext H.n H h ∧ t.n = 46 ∧ t.get 0 = v ∧ t.get 1 = .lit (.int .i64 les) ∧ t.get 5 = o ∧ t.get 8 = v ∧ t.get 9 = .lit (.int .i64 xs.length) ∧ t.get 10 = .lit (.int .i64 i)) ?_ ?_ _ _ ?_
  · rintro i t h hlt hc ⟨o, ho, he, hn, g0, g1, g5, g8, g9, g10⟩ ih
    obtain ⟨x, hx⟩ : ∃ x, xs[i]? = some x := ⟨_, List.getElem?_eq_getElem hlt⟩
    have hv1 := hv.ext he (Nat.le_refl _)
    obtain ⟨c, hc1, hld, hld0⟩ := hv1.at (T := tabOf Try.prog NT0) RIv_z hx
    obtain ⟨va, vb, rfl, ha, hb, i1, i2⟩ := RIv_is.1 hc1
    have a1 := ha.one
    have b1 := hb.one
    have hw := wrap_succ hlt (by omega)
    have hw2 : IntKind.i64.wrap ((xs.length : Int) - 1) = (xs.length : Int) - 1 := wrap_in (by omega) (by omega)
    simp only [core, Nat.reduceAdd, Nat.reduceSub, Nat.reduceMul, Nat.reduceLT, Nat.reduceEqDiff, reduceCtorEq, Nat.reduceLeDiff, Int.reduceLE, Int.reduceLT, Int.reduceToNat, s1, s2, hn, g0, g1, g5, g8, g9, g10, hlt, hc, hld, hld0, hw, hw2, a1, b1]
    have hEp : ∀ y, Ext H.n H (h.push y) := fun y => he.push _ he.1
    have hOp : ∀ y, OwnL RIvC (fun b => H.n ≤ b) H.n (h.push y) o 65 ((xs.dropLast.take i).filter (askF les)) := fun y => ho.ext ((Ext.refl h.n h).push _ (Nat.le_refl _)) (Nat.le_refl _)
    refine WReg_if (fun hp => ?_) (fun hp => ?_)
    · have hp' : i < xs.length - 1 := by omega
      have hst := prior_step les hx hp'
      simp only [core, Nat.reduceAdd, Nat.reduceSub, Nat.reduceMul, Nat.reduceLT, Nat.reduceEqDiff, reduceCtorEq, Nat.reduceLeDiff, Int.reduceLE, Int.reduceLT, Int.reduceToNat, s1, s2, hn, g0, g1, g5, g8, g9, g10, hlt, hc, hld, hld0, hw, hw2, a1, b1, hp]
      refine WReg_bool (fun hm => ?_) (fun hm => ?_)
      · simp only [core, Nat.reduceAdd, Nat.reduceSub, Nat.reduceMul, Nat.reduceLT, Nat.reduceEqDiff, reduceCtorEq, Nat.reduceLeDiff, Int.reduceLE, Int.reduceLT, Int.reduceToNat, s1, s2, hn, g0, g1, g5, g8, g9, g10, hlt, hc, hld, hld0, hw, hw2, a1, b1, hp, hm]
        refine ⟨fun hf => ?_, fun hf => ?_⟩
        · obtain ⟨hxa, hxb⟩ := hs x (List.mem_of_getElem? hx)
          have a2 := ha.isSl
          have b2 := hb.isSl
          obtain ⟨hp0, hhp⟩ : ∃ hp, hp = h.push (.cells [.lit (.int .i64 x.first), .lit (.int .i64 x.last), va, vb, .lit (.bool true)] 65) := ⟨_, rfl⟩
          have E0 : Ext h.n h hp0 := hhp ▸ (Ext.refl _ _).push _ (Nat.le_refl _)
          have N0 : h.n < hp0.n := by rw [hhp, n_push]; omega
          have A0 : hp0.at h.n = some (.cells [.lit (.int .i64 x.first), .lit (.int .i64 x.last), va, vb, .lit (.bool true)] 65) := hhp ▸ at_push_n h _
          have L0 := ld_at (T := tabOf Try.prog NT0) A0
          rw [← hhp]
          rw [WB_regionD [0, 1, 2, 3, 4, 5, 6, 8, 9, 7, 10, 11, 12, 13, 14] 26958712494789967440197941925978245997487457871979597058109402513408 (by kernel_rfl)]
          repeat ((with_reducible refine WDM_cons ?_; simp only [dw1]; try simp only [dw2, Nat.reduceAdd, Nat.reduceMul, Nat.reduceShiftRight, Nat.reduceMod, Nat.reduceEqDiff]); simp only [core, Nat.reduceAdd, Nat.reduceSub, Nat.reduceMul, Nat.reduceLT, Nat.reduceEqDiff, reduceCtorEq, Nat.reduceLeDiff, Int.reduceLE, Int.reduceLT, Int.reduceToNat, cored, s1, s2, hn, g0, g1, g5, g8, g9, g10, hlt, hc, hw, hw2, a1, b1, a2, b2, L0])
          refine (clone_o (ha.ext E0 (Nat.le_refl _)) hxa).mono ?_
          rintro ra h1 ⟨E1, rda⟩
          have ra1 := rda.toSl (F := fun b => hp0.n ≤ b) (fun _ h => h)
          have A1 : h1.at h.n = some (.cells [.lit (.int .i64 x.first), .lit (.int .i64 x.last), va, vb, .lit (.bool true)] 65) := (E1.2 _ N0).trans A0
          have L1 := ld_at (T := tabOf Try.prog NT0) A1
          repeat ((with_reducible refine WDM_cons ?_; simp only [dw1]; try simp only [dw2, Nat.reduceAdd, Nat.reduceMul, Nat.reduceShiftRight, Nat.reduceMod, Nat.reduceEqDiff]); simp only [core, Nat.reduceAdd, Nat.reduceSub, Nat.reduceMul, Nat.reduceLT, Nat.reduceEqDiff, reduceCtorEq, Nat.reduceLeDiff, Int.reduceLE, Int.reduceLT, Int.reduceToNat, cored, s1, s2, hn, g0, g1, g5, g8, g9, g10, hlt, hc, hw, hw2, a1, b1, a2, b2, L1])
          refine (clone_x ((hb.ext E0 (Nat.le_refl _)).ext E1 (Nat.le_refl _)) hxb).mono ?_
          rintro rb h2 ⟨E2, rb1, -⟩
          have A2 : h2.at h.n = some (.cells [.lit (.int .i64 x.first), .lit (.int .i64 x.last), va, vb, .lit (.bool true)] 65) := (E2.2 _ (by have := E1.1; omega)).trans A1
          have L2 := ld_at (T := tabOf Try.prog NT0) A2
          have a3 := ra1.one
          have b3 := rb1.one
          have N2 : h.n < h2.n := by have := E1.1; have := E2.1; omega
          repeat ((with_reducible refine WDM_cons ?_; simp only [dw1]; try simp only [dw2, Nat.reduceAdd, Nat.reduceMul, Nat.reduceShiftRight, Nat.reduceMod, Nat.reduceEqDiff]); simp only [core, Nat.reduceAdd, Nat.reduceSub, Nat.reduceMul, Nat.reduceLT, Nat.reduceEqDiff, reduceCtorEq, Nat.reduceLeDiff, Int.reduceLE, Int.reduceLT, Int.reduceToNat, cored, s1, s2, hn, g0, g1, g5, g8, g9, g10, hlt, hc, hw, hw2, a1, b1, a2, b2, L2, a3, b3, N2])
          obtain ⟨h3, hh3⟩ : ∃ h3, h3 = h2.push (.cells [.lit (.int .i64 x.first), .lit (.int .i64 x.last), ra, rb, .lit (.bool true)] 65) := ⟨_, rfl⟩
          have E3 : Ext h2.n h2 h3 := hh3 ▸ (Ext.refl _ _).push _ (Nat.le_refl _)
          have A3 : h3.at h2.n = some (.cells [.lit (.int .i64 x.first), .lit (.int .i64 x.last), ra, rb, .lit (.bool true)] 65) := hh3 ▸ at_push_n h2 _
          have ho3 := (((ho.ext E0 (Nat.le_refl _)).ext E1 (Nat.le_refl _)).ext E2 (Nat.le_refl _)).ext E3 (Nat.le_refl _)
          have hE3 : Ext H.n H h3 := ((he.trans (E0.mono he.1)).trans (E1.mono (by have := he.1; omega))).trans ((E2.mono (by have := he.1; have := E1.1; omega)).trans (E3.mono (by have := he.1; omega)))
          rw [← hh3]
          have hlen : ((xs.dropLast.take i).filter (askF les)).length + 1 ≤ xs.length := by
            have := List.length_filter_le (askF les) (xs.dropLast.take i)
            rw [List.length_take, List.length_dropLast] at this
            omega
          refine WOpD_app (ho3.snoc (by kernel_rfl) (by kernel_rfl) (by kernel_rfl) (zv := .agg [.lit (.int .i64 0), .lit (.int .i64 0), .lit (.slice none 0 0), .lit (.slice none 0 0), .lit (.bool false)]) (by kernel_rfl) (by' := 72) (by kernel_rfl) rfl (by decide) (by decide) A3
            (y := x) ⟨ra, rb, by rw [hm], ?_, ?_, i1, i2, fun hne => ?_⟩ (by omega) (by omega) hE3.1) ?_
          · exact ra1.lift fun b hb hlt => ⟨(E3.2 b (by have := E2.1; omega)).trans (E2.2 b hlt), by have := he.1; omega, ho.apart (by omega)⟩
          · exact rb1.lift fun b hb hlt => ⟨E3.2 b hlt, by have := he.1; have := E1.1; omega, ho.apart (by have := E1.1; omega)⟩
          · rcases rda with hro | ⟨hx0, -⟩
            · obtain ⟨pp, he, hpp, hat, -⟩ := hro.ints hne
              exact ⟨pp, _, he, (E3.2 pp (by have := at_lt hat; have := E2.1; omega)).trans ((E2.2 pp (at_lt hat)).trans hat)⟩
            · exact absurd hx0 hne
          · rintro s' h' ⟨o1, e1, -⟩
            repeat ((with_reducible refine WDM_cons ?_; simp only [dw1]; try simp only [dw2, Nat.reduceAdd, Nat.reduceMul, Nat.reduceShiftRight, Nat.reduceMod, Nat.reduceEqDiff]); simp only [core, Nat.reduceAdd, Nat.reduceSub, Nat.reduceMul, Nat.reduceLT, Nat.reduceEqDiff, reduceCtorEq, Nat.reduceLeDiff, Int.reduceLE, Int.reduceLT, Int.reduceToNat, cored, s1, s2, hn, g0, g1, g5, g8, g9, g10, hlt, hc, hw, hw2, a1, b1, a2, b2, L2, a3, b3, N2])
            refine ih _ _ ⟨s', ?_, hE3.trans e1, ?_⟩
            · rw [hst, if_pos (by simp [askF, hm, hf])]
              exact o1
            · simp only [core, Nat.reduceAdd, Nat.reduceSub, Nat.reduceMul, Nat.reduceLT, Nat.reduceEqDiff, reduceCtorEq, Nat.reduceLeDiff, Int.reduceLE, Int.reduceLT, Int.reduceToNat, hn, g0, g1, g5, g8, g9, g10]
        · refine ih _ _ ⟨o, ?_, hEp _, ?_⟩
          · rw [hst, if_neg (by simp [askF, hm]; simpa using hf), List.append_nil]
            exact hOp _
          · simp only [core, Nat.reduceAdd, Nat.reduceSub, Nat.reduceMul, Nat.reduceLT, Nat.reduceEqDiff, reduceCtorEq, Nat.reduceLeDiff, Int.reduceLE, Int.reduceLT, Int.reduceToNat, hn, g0, g1, g5, g8, g9, g10]
      · simp only [core, Nat.reduceAdd, Nat.reduceSub, Nat.reduceMul, Nat.reduceLT, Nat.reduceEqDiff, reduceCtorEq, Nat.reduceLeDiff, Int.reduceLE, Int.reduceLT, Int.reduceToNat, s1, s2, hn, g0, g1, g5, g8, g9, g10, hlt, hc, hld, hld0, hw, hw2, a1, b1, hp, hm]
        refine ih _ _ ⟨o, ?_, hEp _, ?_⟩
        · rw [hst, if_neg (by simp [askF, hm]), List.append_nil]
          exact hOp _
        · simp only [core, Nat.reduceAdd, Nat.reduceSub, Nat.reduceMul, Nat.reduceLT, Nat.reduceEqDiff, reduceCtorEq, Nat.reduceLeDiff, Int.reduceLE, Int.reduceLT, Int.reduceToNat, hn, g0, g1, g5, g8, g9, g10]
    · have hp' : ¬ i < xs.length - 1 := by omega
      simp only [core, Nat.reduceAdd, Nat.reduceSub, Nat.reduceMul, Nat.reduceLT, Nat.reduceEqDiff, reduceCtorEq, Nat.reduceLeDiff, Int.reduceLE, Int.reduceLT, Int.reduceToNat, s1, s2, hn, g0, g1, g5, g8, g9, g10, hlt, hc, hld, hld0, hw, hw2, a1, b1, hp]
      refine ih _ _ ⟨o, ?_, hEp _, ?_⟩
      · rw [prior_stay les hp']
        exact hOp _
      · simp only [core, Nat.reduceAdd, Nat.reduceSub, Nat.reduceMul, Nat.reduceLT, Nat.reduceEqDiff, reduceCtorEq, Nat.reduceLeDiff, Int.reduceLE, Int.reduceLT, Int.reduceToNat, hn, g0, g1, g5, g8, g9, g10]
  · rintro t h hc ⟨o, ho, he, hn, g0, g1, g5, g8, g9, g10⟩
    simp only [core, Nat.reduceAdd, Nat.reduceSub, Nat.reduceMul, Nat.reduceLT, Nat.reduceEqDiff, reduceCtorEq, Nat.reduceLeDiff, Int.reduceLE, Int.reduceLT, Int.reduceToNat, s1, s2, hn, g0, g1, g5, g8, g9, g10, hc]
    refine ⟨he, ?_⟩
    rw [List.take_of_length_le (by rw [List.length_dropLast]; omega)] at ho
    exact ho
  · refine ⟨.lit (.slice none 0 0), ?_, Ext.refl _ _, ?_⟩
    · exact OwnL.nil
    · simp only [core, Nat.reduceAdd, Nat.reduceSub, Nat.reduceMul, Nat.reduceLT, Nat.reduceEqDiff, reduceCtorEq, Nat.reduceLeDiff, Int.reduceLE, Int.reduceLT, Int.reduceToNat]
      rfl
end Go.Proofs.Ytkgbeihcepociaa.Ex
end

section

set_option linter.unusedSimpArgs false
set_option linter.unusedVariables false
set_option maxRecDepth 10000
set_option maxHeartbeats 4000000
namespace Go.Proofs.Ytkgbeihcepociaa.Ex
open Go
theorem prior15_x {F : Nat → Prop} {H : AH} {v : AV} {xs : List IvD} (les : Int) (hv : IsSl RIv F H v xs) (hl : xs.length * 72 ≤ 140737488355328) (hs : ∀ x ∈ xs, x.acting.length * 8 ≤ 140737488355328 ∧ x.boots.length * 8 ≤ 140737488355328) :
    WC Try.prog (tabOf Try.prog NT0) S0 39 [v, .lit (.int .i64 les)] H fun r h' => Ext H.n H h' ∧ IsSl RIv (fun b => H.n ≤ b) h' r (priorF les xs) := by
  refine WC_fn Try.func39 rfl rfl ?_
  have s1 := hv.isSl
  have s2 := hv.lenD
  simp only [core, Nat.reduceAdd, Nat.reduceSub, Nat.reduceMul, Nat.reduceLT, Nat.reduceEqDiff, reduceCtorEq, Nat.reduceLeDiff, Int.reduceLE, Int.reduceLT, Int.reduceToNat, Try.ntmps39, s1, s2]
  refine WB_for (xs.length - 1) (fun i t h => ∃ o, OwnL RIv (fun b => H.n ≤ b) H.n h o 65 ((xs.dropLast.take i).filter (askF les)) ∧ Ext H.n H h ∧ t.n = 48 ∧ t.get 0 = v ∧ t.get 1 = .lit (.int .i64 les) ∧ t.get 5 = o ∧ t.get 6 = .lit (.int .i64 i)) ?_ ?_ _ _ ?_
  · rintro i t h hp' - ⟨o, ho, he, hn, g0, g1, g5, g6⟩ ih
    have hlt : i < xs.length := by omega
    have hc : (((i + 1 : Nat) : Int) < (xs.length : Int)) = True := by simp; omega
    obtain ⟨x, hx⟩ : ∃ x, xs[i]? = some x := ⟨_, List.getElem?_eq_getElem hlt⟩
    have hv1 := hv.ext he (Nat.le_refl _)
    obtain ⟨c, hc1, hld, hld0⟩ := hv1.at (T := tabOf Try.prog NT0) RIv_z hx
    obtain ⟨va, vb, rfl, ha, hb, i1, i2⟩ := RIv_is.1 hc1
    have a1 := ha.one
    have b1 := hb.one
    have hw := wrap_succ hlt (by omega)
    have hst := prior_step les hx hp'
    simp only [core, Nat.reduceAdd, Nat.reduceSub, Nat.reduceMul, Nat.reduceLT, Nat.reduceEqDiff, reduceCtorEq, Nat.reduceLeDiff, Int.reduceLE, Int.reduceLT, Int.reduceToNat, s1, s2, hn, g0, g1, g5, g6, hlt, hc, hld, hld0, hw, a1, b1]
    refine WReg_bool (fun hm => ?_) (fun hm => ?_)
    · simp only [core, Nat.reduceAdd, Nat.reduceSub, Nat.reduceMul, Nat.reduceLT, Nat.reduceEqDiff, reduceCtorEq, Nat.reduceLeDiff, Int.reduceLE, Int.reduceLT, Int.reduceToNat, s1, s2, hn, g0, g1, g5, g6, hlt, hc, hld, hld0, hw, a1, b1, hm]
      refine ⟨fun hf => ?_, fun hf => ?_⟩
      · obtain ⟨hxa, hxb⟩ := hs x (List.mem_of_getElem? hx)
        obtain ⟨hp0, hhp⟩ : ∃ hp, hp = h.push (.cells [.lit (.int .i64 x.first), .lit (.int .i64 x.last), va, vb, .lit (.bool true)] 65) := ⟨_, rfl⟩
        have E0 : Ext h.n h hp0 := hhp ▸ (Ext.refl _ _).push _ (Nat.le_refl _)
        have N0 : hp0.n = h.n + 1 := by rw [hhp, n_push]
        have A0 : hp0.at h.n = some (.cells [.lit (.int .i64 x.first), .lit (.int .i64 x.last), va, vb, .lit (.bool true)] 65) := hhp ▸ at_push_n h _
        rw [← hhp]
        refine WOp_app (fresh_ints N0.symm (ha.ext E0 (Nat.le_refl _)) hxa) ?_
        rintro ra h1 ⟨E1, ra1, -⟩
        have A1 : h1.at h.n = some (.cells [.lit (.int .i64 x.first), .lit (.int .i64 x.last), va, vb, .lit (.bool true)] 65) := (E1.2 _ (by omega)).trans A0
        have N1 : h.n < h1.n := at_lt A1
        have a3 := ra1.one
        simp only [core, Nat.reduceAdd, Nat.reduceSub, Nat.reduceMul, Nat.reduceLT, Nat.reduceEqDiff, reduceCtorEq, Nat.reduceLeDiff, Int.reduceLE, Int.reduceLT, Int.reduceToNat, s1, s2, hn, g0, g1, g5, g6, A1, a3, a1, b1]
        obtain ⟨q1, hq1⟩ : ∃ q, q = h1.put h.n (.cells [.lit (.int .i64 x.first), .lit (.int .i64 x.last), ra, vb, .lit (.bool true)] 65) := ⟨_, rfl⟩
        have B1 : q1.at h.n = some (.cells [.lit (.int .i64 x.first), .lit (.int .i64 x.last), ra, vb, .lit (.bool true)] 65) := hq1 ▸ at_put_same _ N1
        have F1 : ∀ b, b ≠ h.n → q1.at b = h1.at b := fun b hb => hq1 ▸ at_put_ne _ (Ne.symm hb)
        have M1 : q1.n = h1.n := hq1 ▸ n_put _ _ _
        have L1 := ld_at (T := tabOf Try.prog NT0) B1
        have N2 : h.n < q1.n := by omega
        rw [← hq1]
        simp only [core, Nat.reduceAdd, Nat.reduceSub, Nat.reduceMul, Nat.reduceLT, Nat.reduceEqDiff, reduceCtorEq, Nat.reduceLeDiff, Int.reduceLE, Int.reduceLT, Int.reduceToNat, s1, s2, hn, g0, g1, g5, g6, L1, N2, a3, a1, b1]
        have hvb : IsSl RInt F q1 vb x.boots := hb.lift fun b hF hlt => ⟨(F1 b (by omega)).trans ((E1.2 b (by omega)).trans (E0.2 b hlt)), hF⟩
        refine WOp_app (fresh_ints M1.symm hvb hxb) ?_
        rintro rb h2 ⟨E2, rb1, -⟩
        have A2 : h2.at h.n = some (.cells [.lit (.int .i64 x.first), .lit (.int .i64 x.last), ra, vb, .lit (.bool true)] 65) := (E2.2 _ (by omega)).trans B1
        have N3 : h.n < h2.n := at_lt A2
        have b3 := rb1.one
        simp only [core, Nat.reduceAdd, Nat.reduceSub, Nat.reduceMul, Nat.reduceLT, Nat.reduceEqDiff, reduceCtorEq, Nat.reduceLeDiff, Int.reduceLE, Int.reduceLT, Int.reduceToNat, s1, s2, hn, g0, g1, g5, g6, A2, N3, a3, a1, b1, b3]
        obtain ⟨q2, hq2⟩ : ∃ q, q = h2.put h.n (.cells [.lit (.int .i64 x.first), .lit (.int .i64 x.last), ra, rb, .lit (.bool true)] 65) := ⟨_, rfl⟩
        have F2 : ∀ b, b ≠ h.n → q2.at b = h2.at b := fun b hb => hq2 ▸ at_put_ne _ (Ne.symm hb)
        have M2 : q2.n = h2.n := hq2 ▸ n_put _ _ _
        obtain ⟨q3, hq3⟩ : ∃ q, q = q2.push (.cells [.lit (.int .i64 x.first), .lit (.int .i64 x.last), ra, rb, .lit (.bool true)] 65) := ⟨_, rfl⟩
        have A3 : q3.at h2.n = some (.cells [.lit (.int .i64 x.first), .lit (.int .i64 x.last), ra, rb, .lit (.bool true)] 65) := by rw [hq3, ← M2]; exact at_push_n _ _
        have F3 : ∀ b, b < q2.n → q3.at b = q2.at b := fun b hb => hq3 ▸ at_push_lt _ hb
        have M3 : q3.n = q2.n + 1 := by rw [hq3, n_push]
        rw [← hq2, ← hq3]
        have hlow : Ext h.n h q3 := ⟨by have := E1.1; have := E2.1; omega, fun b hb => (F3 b (by have := E2.1; omega)).trans ((F2 b (by omega)).trans ((E2.2 b (by omega)).trans ((F1 b (by omega)).trans ((E1.2 b (by omega)).trans (E0.2 b hb)))))⟩
        have ho3 := ho.ext hlow (Nat.le_refl _)
        have hE3 : Ext H.n H q3 := he.trans (hlow.mono he.1)
        have hlen : ((xs.dropLast.take i).filter (askF les)).length + 1 ≤ xs.length := by
          have := List.length_filter_le (askF les) (xs.dropLast.take i)
          rw [List.length_take, List.length_dropLast] at this
          omega
        refine WOp_app (ho3.snoc (by kernel_rfl) (by kernel_rfl) (by kernel_rfl) (zv := .agg [.lit (.int .i64 0), .lit (.int .i64 0), .lit (.slice none 0 0), .lit (.slice none 0 0), .lit (.bool false)]) (by kernel_rfl) (by' := 72) (by kernel_rfl) rfl (by decide) (by decide) A3
          (y := x) (RIv_is.2 ⟨ra, rb, by rw [hm], ?_, ?_, i1, i2⟩) (by omega) (by omega) hE3.1) ?_
        · exact ra1.lift fun b hb hlt => ⟨(F3 b (by have := E2.1; omega)).trans ((F2 b (by omega)).trans ((E2.2 b (by omega)).trans (F1 b (by omega)))), by have := he.1; omega, ho.apart (by omega)⟩
        · exact rb1.lift fun b hb hlt => ⟨(F3 b (by omega)).trans (F2 b (by have := E1.1; omega)), by have := he.1; have := E1.1; omega, ho.apart (by have := E1.1; omega)⟩
        · rintro s' h' ⟨o1, e1, -⟩
          simp only [core, Nat.reduceAdd, Nat.reduceSub, Nat.reduceMul, Nat.reduceLT, Nat.reduceEqDiff, reduceCtorEq, Nat.reduceLeDiff, Int.reduceLE, Int.reduceLT, Int.reduceToNat, s1, s2, hn, g0, g1, g5, g6, hlt, hc, hw]
          refine ih _ _ ⟨s', ?_, hE3.trans e1, ?_⟩
          · rw [hst, if_pos (by simp [askF, hm, hf])]
            exact o1
          · simp only [core, Nat.reduceAdd, Nat.reduceSub, Nat.reduceMul, Nat.reduceLT, Nat.reduceEqDiff, reduceCtorEq, Nat.reduceLeDiff, Int.reduceLE, Int.reduceLT, Int.reduceToNat, hn, g0, g1, g5, g6]
      · refine ih _ _ ⟨o, ?_, he, ?_⟩
        · rw [hst, if_neg (by simp [askF, hm]; simpa using hf), List.append_nil]
          exact ho
        · simp only [core, Nat.reduceAdd, Nat.reduceSub, Nat.reduceMul, Nat.reduceLT, Nat.reduceEqDiff, reduceCtorEq, Nat.reduceLeDiff, Int.reduceLE, Int.reduceLT, Int.reduceToNat, hn, g0, g1, g5, g6]
    · simp only [core, Nat.reduceAdd, Nat.reduceSub, Nat.reduceMul, Nat.reduceLT, Nat.reduceEqDiff, reduceCtorEq, Nat.reduceLeDiff, Int.reduceLE, Int.reduceLT, Int.reduceToNat, s1, s2, hn, g0, g1, g5, g6, hlt, hc, hld, hld0, hw, a1, b1, hm]
      refine ih _ _ ⟨o, ?_, he, ?_⟩
      · rw [hst, if_neg (by simp [askF, hm]), List.append_nil]
        exact ho
      · simp only [core, Nat.reduceAdd, Nat.reduceSub, Nat.reduceMul, Nat.reduceLT, Nat.reduceEqDiff, reduceCtorEq, Nat.reduceLeDiff, Int.reduceLE, Int.reduceLT, Int.reduceToNat, hn, g0, g1, g5, g6]
  · rintro t h - ⟨o, ho, he, hn, g0, g1, g5, g6⟩
    have hc : (IntKind.i64.wrap (((xs.length - 1 : Nat) : Int) + 1) < (xs.length : Int)) = False := by
      rw [wrap_in (by omega) (by omega)]
      simp
      omega
    simp only [core, Nat.reduceAdd, Nat.reduceSub, Nat.reduceMul, Nat.reduceLT, Nat.reduceEqDiff, reduceCtorEq, Nat.reduceLeDiff, Int.reduceLE, Int.reduceLT, Int.reduceToNat, s1, s2, hn, g0, g1, g5, g6, hc]
    refine ⟨he, ?_⟩
    rw [List.take_of_length_le (by rw [List.length_dropLast]; omega)] at ho
    exact ho.toSl (fun _ h => h) (fun _ h => h)
  · refine ⟨.lit (.slice none 0 0), ?_, Ext.refl _ _, ?_⟩
    · exact OwnL.nil
    · simp only [core, Nat.reduceAdd, Nat.reduceSub, Nat.reduceMul, Nat.reduceLT, Nat.reduceEqDiff, reduceCtorEq, Nat.reduceLeDiff, Int.reduceLE, Int.reduceLT, Int.reduceToNat]
      rfl
end Go.Proofs.Ytkgbeihcepociaa.Ex
end

section

set_option linter.unusedSimpArgs false
set_option linter.unusedVariables false
set_option maxRecDepth 10000
set_option maxHeartbeats 4000000
namespace Go.Proofs.Ytkgbeihcepociaa.Ex
open Go
def out8 (L : List Int) : Nat → List Int
  | 0 => []
  | i + 1 => out8 L i ++ (if L.contains (i : Int) = true then [(i : Int)] else [])
theorem out8_succ {L : List Int} {i : Nat} : out8 L (i + 1) = out8 L i ++ (if L.contains (i : Int) = true then [(i : Int)] else []) := rfl
theorem out8_len {L : List Int} : ∀ {i}, (out8 L i).length ≤ i
  | 0 => Nat.le_refl 0
  | i + 1 => by
    have := out8_len (L := L) (i := i)
    rw [out8_succ, List.length_append]
    split
    · show _ + 1 ≤ _; omega
    · show _ + 0 ≤ _; omega
def ask15G (les : Int) (xs : List IvD) (m : MapD) : List Int := match xs.getLast? with
  | none => []
  | some y => out8 (y.acting ++ askS les xs m (priorF les xs).length) 8
theorem ask15_x {F : Nat → Prop} {H : AH} {v : AV} {ms : List MapD} (pool seed les : Int) (hv : IsSl RMp F H v ms) (hl : Sm 88 ms) (hok : ∀ m ∈ ms, OkMp m) :
    WC Try.prog (tabOf Try.prog NT0) S0 42 [v, pgV pool seed, .lit (.int .i64 les)] H fun r h' => Ext H.n H h' ∧ IsSl RInt (fun b => H.n ≤ b) h' r (ask15G les (ivsF pool seed ms) (ms.getD (ms.length - 1) map0)) := by
  refine WC_fn Try.func42 rfl rfl ?_
  have hl' := hl
  unfold Sm at hl'
  have s1 := hv.isSl
  have s2 := hv.lenD
  simp only [core, Nat.reduceAdd, Nat.reduceSub, Nat.reduceMul, Nat.reduceLT, Nat.reduceEqDiff, reduceCtorEq, Nat.reduceLeDiff, Int.reduceLE, Int.reduceLT, Int.reduceToNat, Try.ntmps42, pgV, s1, s2]
  obtain ⟨h1, hh1⟩ : ∃ h1, h1 = H.push (pgB pool seed) := ⟨_, rfl⟩
  have E1 : Ext H.n H h1 := hh1 ▸ (Ext.refl _ _).push _ (Nat.le_refl _)
  unfold pgB at hh1
  rw [← hh1]
  clear hh1
  refine (all15_x pool seed (hv.ext E1 (Nat.le_refl _)) hl hok).mono ?_
  rintro r h2 ⟨e2, n0, hn0, hown⟩
  have E2 := E1.step e2
  have hil := ivsF_len (pool := pool) (seed := seed) (ms := ms)
  have hac := fun x hx => ivs_ok (pool := pool) (seed := seed) (ms := ms) x hx
  have hnat := fun x hx => ivs_nat (pool := pool) (seed := seed) (ms := ms) x hx
  have hnil : ms = [] → ivsF pool seed ms = [] := fun h => by subst h; rfl
  generalize ivsF pool seed ms = xs at hown hil hac hnat hnil
  have r1 := hown.isSl
  have r2 := hown.lenD
  have hr := hown.toSl (F := fun b => H.n ≤ b) (fun b hb => Nat.le_trans E1.1 (Nat.le_trans hn0 hb)) (fun b hb => Nat.le_trans E1.1 (Nat.le_trans hn0 hb))
  simp only [core, Nat.reduceAdd, Nat.reduceSub, Nat.reduceMul, Nat.reduceLT, Nat.reduceEqDiff, reduceCtorEq, Nat.reduceLeDiff, Int.reduceLE, Int.reduceLT, Int.reduceToNat, r1, r2]
  refine ⟨fun he => ?_, fun he => ?_⟩
  · obtain rfl : xs = [] := List.eq_nil_of_length_eq_zero (by have := eq_of_beq he; omega)
    exact ⟨E2, IsSl.nil⟩
  have hpos : 0 < xs.length := by have := beq_eq_false_iff_ne.1 he; omega
  have hmp : 0 < ms.length := List.length_pos_iff.2 fun hh => by rw [hnil hh] at hpos; simp at hpos
  obtain ⟨y, hy⟩ : ∃ y, xs[xs.length - 1]? = some y := ⟨_, List.getElem?_eq_getElem (by omega)⟩
  have hlast : xs.getLast? = some y := by rw [List.getLast?_eq_getElem?]; exact hy
  obtain ⟨m, hm⟩ : ∃ m, ms[ms.length - 1]? = some m := ⟨_, List.getElem?_eq_getElem (by omega)⟩
  have hmd : ms.getD (ms.length - 1) map0 = m := by rw [List.getD_eq_getElem?_getD, hm]; rfl
  have hlt1 : ms.length - 1 < ms.length := by omega
  have hw1 : IntKind.i64.wrap ((ms.length : Int) - 1) = ((ms.length - 1 : Nat) : Int) := (wrap_in (by omega) (by omega)).trans (by omega)
  have hlt2 : xs.length - 1 < xs.length := by omega
  have hw2 : IntKind.i64.wrap ((xs.length : Int) - 1) = ((xs.length - 1 : Nat) : Int) := (wrap_in (by omega) (by omega)).trans (by omega)
  obtain ⟨c, hc1, hld, hld0⟩ := hv.atE (T := tabOf Try.prog NT0) E2 RMp_z hm
  obtain ⟨vo, vp, vb, rfl, m1, m2, m3, -⟩ := RMp_is.1 hc1
  have i1 := m1.one
  have i2 := m2.one
  have i3 := m3.one
  have j1 := m1.isSl
  have k1 := m1.lenD
  obtain ⟨c, hcy, hldy, hldy0⟩ := hr.at (T := tabOf Try.prog NT0) RIv_z hy
  obtain ⟨ya, yb, rfl, hya, hyb, -, -⟩ := RIv_is.1 hcy
  have ldP := fun X => hr.ldE (T := tabOf Try.prog NT0) hpos ((Ext.refl h2.n h2).push X (Nat.le_refl _))
  have ldP2 := fun X Y => hr.ldE (T := tabOf Try.prog NT0) hpos (((Ext.refl h2.n h2).push X (Nat.le_refl _)).push Y (by rw [n_push]; omega))
  have y1 := hya.isSl
  simp only [core, Nat.reduceAdd, Nat.reduceSub, Nat.reduceMul, Nat.reduceLT, Nat.reduceEqDiff, reduceCtorEq, Nat.reduceLeDiff, Int.reduceLE, Int.reduceLT, Int.reduceToNat, s1, s2, r1, r2, hlt1, hw1, hlt2, hw2, hld, hld0, i1, i2, i3, ldP, ldP2, hldy, hldy0, y1]
  obtain ⟨h3, hh3⟩ : ∃ h3, h3 = h2.push (.cells [.lit (.int .i64 m.epoch), vo, vp, vb, .lit (.int .i64 m.leaf)] 31) := ⟨_, rfl⟩
  have e3 : Ext h2.n h2 h3 := hh3 ▸ (Ext.refl _ _).push _ (Nat.le_refl _)
  have B3 : h3.at h2.n = some (.cells [.lit (.int .i64 m.epoch), vo, vp, vb, .lit (.int .i64 m.leaf)] 31) := hh3 ▸ at_push_n _ _
  have n3 : h3.n = h2.n + 1 := by rw [hh3, n_push]
  rw [← hh3]
  clear hh3
  have E3 := E2.step e3
  have hyac := hac y (List.mem_of_getElem? hy)
  refine WOp_app (dn_ints (n0 := h3.n) ((hya.ext e3 (Nat.le_refl _)).ext ((Ext.refl h3.n h3).push (.cells [] 3) (Nat.le_refl _)) (Nat.le_refl _)) (by omega) (p := h2.n + 1) (by rw [← n3]; exact at_push_n h3 _) (by omega) (by rw [n_push]; omega)) ?_
  rintro d h4 ⟨hd, e4'⟩
  have e4 : Ext h3.n h3 h4 := ((Ext.refl h3.n h3).push _ (Nat.le_refl _)).trans (e4'.mono (by rw [n_push]; omega))
  have E4 := E3.step e4
  have d1 := (hd.toSl (F := fun _ => True) (fun _ _ => trivial)).isSl
  simp only [core, Nat.reduceAdd, Nat.reduceSub, Nat.reduceMul, Nat.reduceLT, Nat.reduceEqDiff, reduceCtorEq, Nat.reduceLeDiff, Int.reduceLE, Int.reduceLT, Int.reduceToNat, r1, d1]
  refine (prior15_x les (hr.ext (e3.step e4) (Nat.le_refl _)) (by omega) (fun z hz => by have := hac z hz; omega)).mono ?_
  rintro q h5 ⟨e5, hq⟩
  have E5 := E4.step e5
  have q1 := hq.isSl
  have q2 := hq.lenD
  have e45 := e4.step e5
  have B5 := (e45.2 _ (at_lt B3)).trans B3
  have hpl : (priorF les xs).length ≤ xs.length := by
    have := List.length_filter_le (askF les) xs.dropLast
    rw [List.length_dropLast] at this
    exact Nat.le_trans this (by omega)
  have hb3 := at_lt B3
  have hn34 := e4.1
  have hn45 := e5.1
  have hdA : ∀ b, b < h5.n → h4.n ≤ b → Apart d b := fun b _ hb => hd.lt hb
  simp only [core, Nat.reduceAdd, Nat.reduceSub, Nat.reduceMul, Nat.reduceLT, Nat.reduceEqDiff, reduceCtorEq, Nat.reduceLeDiff, Int.reduceLE, Int.reduceLT, Int.reduceToNat, r1, q1, q2]
  refine WB_for (priorF les xs).length (fun j t h => (∃ d L, L = y.acting ++ askS les xs m j ∧ L.length ≤ 8 + 8 * j ∧ (∀ o ∈ L, I64 o) ∧ DnI h3.n h d L ∧ h5.n ≤ h.n ∧ (∀ b, b < h5.n → (b < h3.n ∨ h4.n ≤ b) → h.at b = h5.at b) ∧ (∀ b, b < h5.n → h4.n ≤ b → Apart d b) ∧ t.get 9 = d) ∧ t.n = 91 ∧ t.get 8 = .ptr h2.n 0 ∧ t.get 39 = q ∧ t.get 40 = .lit (.int .i64 (priorF les xs).length) ∧ t.get 41 = .lit (.int .i64 j)) ?_ ?_ _ _ ?_
  · rintro j t h hlt hc ⟨⟨d, L, hL, hLl, hLI, hd, n5, k5, kA, g9⟩, hn, g8, g39, g40, g41⟩ ih
    obtain ⟨x, hx⟩ : ∃ x, (priorF les xs)[j]? = some x := ⟨_, List.getElem?_eq_getElem hlt⟩
    have hxm : x ∈ xs := List.dropLast_subset _ (List.mem_filter.1 (List.mem_of_getElem? hx)).1
    have ldq := hq.ldF (T := tabOf Try.prog NT0) (h := h) (by omega) (fun b hb hlt => k5 b hlt (.inr hb))
    obtain ⟨c, hc1, hld, hld0⟩ := hq.at (T := tabOf Try.prog NT0) RIv_z hx
    obtain ⟨xa, xb, rfl, hxa, hxb, -, -⟩ := RIv_is.1 hc1
    have a1 := hxa.one
    have b1 := hxb.one
    have a2 := hxa.isSl
    have a3 := hxa.lenD
    have hxac := hac x hxm
    have hw := wrap_succ hlt (by omega)
    simp only [core, Nat.reduceAdd, Nat.reduceSub, Nat.reduceMul, Nat.reduceLT, Nat.reduceEqDiff, reduceCtorEq, Nat.reduceLeDiff, Int.reduceLE, Int.reduceLT, Int.reduceToNat, hn, g8, g39, g40, g41, g9, hlt, hc, q1, q2, ldq, hld, hld0, a1, b1, a2, a3]
    have hnx := hnat x hxm
    have hil5 := hil
    refine WB_for x.acting.length (fun k t h => (∃ d L, L = y.acting ++ askS les xs m j ++ (x.acting.take k).filter (upM m) ∧ L.length ≤ 8 + 8 * j + k ∧ (∀ o ∈ L, I64 o) ∧ DnI h3.n h d L ∧ h5.n ≤ h.n ∧ (∀ b, b < h5.n → (b < h3.n ∨ h4.n ≤ b) → h.at b = h5.at b) ∧ (∀ b, b < h5.n → h4.n ≤ b → Apart d b) ∧ t.get 9 = d) ∧ t.n = 91 ∧ t.get 8 = .ptr h2.n 0 ∧ t.get 39 = q ∧ t.get 40 = .lit (.int .i64 (priorF les xs).length) ∧ t.get 41 = .lit (.int .i64 j) ∧ t.get 46 = xa ∧ t.get 47 = .lit (.int .i64 x.acting.length) ∧ t.get 48 = .lit (.int .i64 k)) ?_ ?_ _ _ ?_
    · rintro k t h hlt3 hc3 ⟨⟨d, L, hL, hLl, hLI, hd, n5, k5, kA, g9⟩, hn, g8, g39, g40, g41, g46, g47, g48⟩ ih2
      obtain ⟨o, ho⟩ : ∃ o, x.acting[k]? = some o := ⟨_, List.getElem?_eq_getElem hlt3⟩
      obtain ⟨kk, rfl⟩ := hnx o (List.mem_of_getElem? ho)
      have hgd : x.acting.getD k 0 = (kk : Int) := by rw [List.getD_eq_getElem?_getD, ho]; rfl
      have hxh : IsSl RInt (fun _ => True) h xa x.acting := hxa.lift fun b hb hlt => ⟨k5 b hlt (.inr hb), trivial⟩
      have hldo := hxh.int (T := tabOf Try.prog NT0) (e := 3) (by kernel_rfl) (by kernel_rfl) hlt3
      rw [hgd] at hldo
      have I1 : I64 (kk : Int) := by have := hxh.i64 k hlt3; rw [hgd] at this; exact this
      have hw3 := wrap_succ hlt3 (by omega)
      have B := (k5 _ (by have := e45.1; omega) (.inl hb3)).trans B5
      have lb := at_lt B
      have LB := ld_at (T := tabOf Try.prog NT0) B
      have hflt : (x.acting.take (k + 1)).filter (upM m) = (x.acting.take k).filter (upM m) ++ (if upM m kk = true then [(kk : Int)] else []) := by
        rw [List.take_add_one, ho, List.filter_append]
        congr 1
        cases hh : upM m kk <;> simp [hh]
      have hup : upM m kk = (match m.osds[kk]? with | some z => z.ex && z.up | none => false) := rfl
      have hd1 := (hd.toSl (F := fun _ => True) (fun _ _ => trivial)).isSl
      have hd2 := (hd.toSl (F := fun _ => True) (fun _ _ => trivial)).one
      have EHh : Ext H.n H h := ⟨by have := E5.1; omega, fun b hb => (k5 b (by have := E5.1; omega) (.inl (by have := E3.1; omega))).trans (E5.2 b hb)⟩
      have skip : upM m kk = false → (y.acting ++ askS les xs m j ++ (x.acting.take (k + 1)).filter (upM m)) = L := fun hh => by rw [hflt, hh, hL]; simp
      by_cases c1 : kk < m.osds.length
      · obtain ⟨z, hz⟩ : ∃ z, m.osds[kk]? = some z := ⟨_, List.getElem?_eq_getElem c1⟩
        rw [hz] at hup
        have hup : upM m kk = (z.ex && z.up) := hup
        obtain ⟨cz, hcz, hldz, hldz0⟩ := m1.atE (T := tabOf Try.prog NT0) EHh ROsd_z hz
        obtain ⟨rfl, -⟩ := ROsd_is.1 hcz
        have hc1 : ((kk : Int) < (m.osds.length : Int)) = True := by simp only [eq_iff_iff, iff_true]; omega
        by_cases hex : z.ex = true
        case neg =>
          have hex : z.ex = false := by simpa using hex
          simp only [core, Nat.reduceAdd, Nat.reduceSub, Nat.reduceMul, Nat.reduceLT, Nat.reduceEqDiff, reduceCtorEq, Nat.reduceLeDiff, Int.reduceLE, Int.reduceLT, Int.reduceToNat, hn, g8, g39, g40, g41, g46, g47, g48, g9, hlt3, hc3, hw3, hldo, a2, a3, LB, lb, j1, k1, c1, hc1, hldz, hldz0, hex, aundef]
          refine ih2 _ _ ⟨⟨d, L, (skip (by rw [hup, hex]; rfl)).symm, by omega, hLI, hd, n5, k5, kA, by simp only [core, Nat.reduceAdd, Nat.reduceSub, Nat.reduceMul, Nat.reduceLT, Nat.reduceEqDiff, reduceCtorEq, Nat.reduceLeDiff, Int.reduceLE, Int.reduceLT, Int.reduceToNat, g9]⟩, by simp only [core, Nat.reduceAdd, Nat.reduceSub, Nat.reduceMul, Nat.reduceLT, Nat.reduceEqDiff, reduceCtorEq, Nat.reduceLeDiff, Int.reduceLE, Int.reduceLT, Int.reduceToNat, hn, g8, g39, g40, g41, g46, g47, g48]⟩
        by_cases hu : z.up = true
        case neg =>
          have hu : z.up = false := by simpa using hu
          simp only [core, Nat.reduceAdd, Nat.reduceSub, Nat.reduceMul, Nat.reduceLT, Nat.reduceEqDiff, reduceCtorEq, Nat.reduceLeDiff, Int.reduceLE, Int.reduceLT, Int.reduceToNat, hn, g8, g39, g40, g41, g46, g47, g48, g9, hlt3, hc3, hw3, hldo, a2, a3, LB, lb, j1, k1, c1, hc1, hldz, hldz0, hex, hu, aundef]
          refine ih2 _ _ ⟨⟨d, L, (skip (by rw [hup, hex, hu]; rfl)).symm, by omega, hLI, hd, n5, k5, kA, by simp only [core, Nat.reduceAdd, Nat.reduceSub, Nat.reduceMul, Nat.reduceLT, Nat.reduceEqDiff, reduceCtorEq, Nat.reduceLeDiff, Int.reduceLE, Int.reduceLT, Int.reduceToNat, g9]⟩, by simp only [core, Nat.reduceAdd, Nat.reduceSub, Nat.reduceMul, Nat.reduceLT, Nat.reduceEqDiff, reduceCtorEq, Nat.reduceLeDiff, Int.reduceLE, Int.reduceLT, Int.reduceToNat, hn, g8, g39, g40, g41, g46, g47, g48]⟩
        have hupt : upM m kk = true := by rw [hup, hex, hu]; rfl
        simp only [core, Nat.reduceAdd, Nat.reduceSub, Nat.reduceMul, Nat.reduceLT, Nat.reduceEqDiff, reduceCtorEq, Nat.reduceLeDiff, Int.reduceLE, Int.reduceLT, Int.reduceToNat, hn, g8, g39, g40, g41, g46, g47, g48, g9, hlt3, hc3, hw3, hldo, a2, a3, LB, lb, j1, k1, c1, hc1, hldz, hldz0, hex, hu, d1, hd1, hd2, aundef]
        obtain ⟨h6, hh6⟩ : ∃ h6, h6 = h.push (.cells [.lit (.int .i64 (kk : Int))] 3) := ⟨_, rfl⟩
        have e6 : Ext h.n h h6 := hh6 ▸ (Ext.refl _ _).push _ (Nat.le_refl _)
        have A6 : h6.at h.n = some (.cells [.lit (.int .i64 (kk : Int))] 3) := hh6 ▸ at_push_n _ _
        rw [← hh6]
        clear hh6
        have he6 := e6.1
        refine WOp_app ((hd.ext e6 (Nat.le_refl _)).snoc A6 I1 (by omega) (by omega)) ?_
        rintro s7 h7 ⟨hd7, e7, k7⟩
        have he7 := e7.1
        have s71 := (hd7.toSl (F := fun _ => True) (fun _ _ => trivial)).isSl
        simp only [core, Nat.reduceAdd, Nat.reduceSub, Nat.reduceMul, Nat.reduceLT, Nat.reduceEqDiff, reduceCtorEq, Nat.reduceLeDiff, Int.reduceLE, Int.reduceLT, Int.reduceToNat, hn, g8, g39, g40, g41, g46, g47, g48, hw3, s71]
        refine ih2 _ _ ⟨⟨s7, L ++ [(kk : Int)], ?_, by rw [List.length_append]; show L.length + 1 ≤ _; omega, ?_, hd7, by omega, fun b hb hbb => ?_, fun b hb hbb => ?_, by simp only [core, Nat.reduceAdd, Nat.reduceSub, Nat.reduceMul, Nat.reduceLT, Nat.reduceEqDiff, reduceCtorEq, Nat.reduceLeDiff, Int.reduceLE, Int.reduceLT, Int.reduceToNat, hn, g8, g39, g40, g41, g46, g47, g48]⟩, by simp only [core, Nat.reduceAdd, Nat.reduceSub, Nat.reduceMul, Nat.reduceLT, Nat.reduceEqDiff, reduceCtorEq, Nat.reduceLeDiff, Int.reduceLE, Int.reduceLT, Int.reduceToNat, hn, g8, g39, g40, g41, g46, g47, g48]⟩
        · rw [hflt, if_pos hupt, hL, List.append_assoc]
        · intro o' ho'
          rcases List.mem_append.1 ho' with ho' | ho'
          · exact hLI o' ho'
          · rw [List.mem_singleton] at ho'; rw [ho']; exact I1
        · rcases hbb with hbb | hbb
          · exact (e7.2 b hbb).trans ((e6.2 b (by omega)).trans (k5 b hb (.inl hbb)))
          · exact (k7 b (by omega) (kA b hb hbb)).1.trans ((e6.2 b (by omega)).trans (k5 b hb (.inr hbb)))
        · exact (k7 b (by omega) (kA b hb hbb)).2
      · have hc1 : ((kk : Int) < (m.osds.length : Int)) = False := by simp only [eq_iff_iff, iff_false]; omega
        have hno : m.osds[kk]? = none := List.getElem?_eq_none (by omega)
        rw [hno] at hup
        simp only [core, Nat.reduceAdd, Nat.reduceSub, Nat.reduceMul, Nat.reduceLT, Nat.reduceEqDiff, reduceCtorEq, Nat.reduceLeDiff, Int.reduceLE, Int.reduceLT, Int.reduceToNat, hn, g8, g39, g40, g41, g46, g47, g48, g9, hlt3, hc3, hw3, hldo, a2, a3, LB, lb, j1, k1, hc1, aundef]
        refine ih2 _ _ ⟨⟨d, L, (skip hup).symm, by omega, hLI, hd, n5, k5, kA, by simp only [core, Nat.reduceAdd, Nat.reduceSub, Nat.reduceMul, Nat.reduceLT, Nat.reduceEqDiff, reduceCtorEq, Nat.reduceLeDiff, Int.reduceLE, Int.reduceLT, Int.reduceToNat, g9]⟩, by simp only [core, Nat.reduceAdd, Nat.reduceSub, Nat.reduceMul, Nat.reduceLT, Nat.reduceEqDiff, reduceCtorEq, Nat.reduceLeDiff, Int.reduceLE, Int.reduceLT, Int.reduceToNat, hn, g8, g39, g40, g41, g46, g47, g48]⟩
    · rintro t h hc3 ⟨⟨d, L, hL, hLl, hLI, hd, n5, k5, kA, g9⟩, hn, g8, g39, g40, g41, g46, g47, g48⟩
      rw [List.take_length] at hL
      simp only [core, Nat.reduceAdd, Nat.reduceSub, Nat.reduceMul, Nat.reduceLT, Nat.reduceEqDiff, reduceCtorEq, Nat.reduceLeDiff, Int.reduceLE, Int.reduceLT, Int.reduceToNat, hn, g8, g39, g40, g41, g46, g47, g48, g9, hc3, hw]
      refine ih _ _ ⟨⟨d, L, by rw [hL, askS_succ hx, List.append_assoc], by omega, hLI, hd, n5, k5, kA, by simp only [core, Nat.reduceAdd, Nat.reduceSub, Nat.reduceMul, Nat.reduceLT, Nat.reduceEqDiff, reduceCtorEq, Nat.reduceLeDiff, Int.reduceLE, Int.reduceLT, Int.reduceToNat, g9]⟩, by simp only [core, Nat.reduceAdd, Nat.reduceSub, Nat.reduceMul, Nat.reduceLT, Nat.reduceEqDiff, reduceCtorEq, Nat.reduceLeDiff, Int.reduceLE, Int.reduceLT, Int.reduceToNat, hn, g8, g39, g40, g41, g46, g47, g48]⟩
    · have e6 : Ext h.n h (h.push (.cells [.lit (.int .i64 x.first), .lit (.int .i64 x.last), xa, xb, .lit (.bool x.mayRw)] 65)) := (Ext.refl _ _).push _ (Nat.le_refl _)
      refine ⟨⟨d, L, by rw [hL]; simp, by omega, hLI, hd.ext e6 (Nat.le_refl _), Nat.le_trans n5 e6.1, fun b hb hbb => (e6.2 b (by omega)).trans (k5 b hb hbb), kA, by simp only [core, Nat.reduceAdd, Nat.reduceSub, Nat.reduceMul, Nat.reduceLT, Nat.reduceEqDiff, reduceCtorEq, Nat.reduceLeDiff, Int.reduceLE, Int.reduceLT, Int.reduceToNat, hn, g8, g39, g40, g41, g9]⟩, by simp only [core, Nat.reduceAdd, Nat.reduceSub, Nat.reduceMul, Nat.reduceLT, Nat.reduceEqDiff, reduceCtorEq, Nat.reduceLeDiff, Int.reduceLE, Int.reduceLT, Int.reduceToNat, hn, g8, g39, g40, g41, g9]; rfl⟩
  · rintro t h hc ⟨⟨d, L, hL, hLl, hLI, hd, n5, k5, kA, g9⟩, hn, g8, g39, g40, g41⟩
    have d1 := (hd.toSl (F := fun _ => True) (fun _ _ => trivial)).isSl
    have EHh : Ext H.n H h := ⟨by have := E5.1; omega, fun b hb => (k5 b (by have := E5.1; omega) (.inl (by have := E3.1; omega))).trans (E5.2 b hb)⟩
    simp only [core, Nat.reduceAdd, Nat.reduceSub, Nat.reduceMul, Nat.reduceLT, Nat.reduceEqDiff, reduceCtorEq, Nat.reduceLeDiff, Int.reduceLE, Int.reduceLT, Int.reduceToNat, hn, g8, g39, g40, g41, g9, hc, d1]
    have hdsl := hd.toSl (F := fun _ => True) (fun _ _ => trivial)
    refine WB_ind (fun (i : Nat) t h' => i ≤ 8 ∧ (∃ o, OwnL RInt (fun _ => False) h.n h' o 3 (out8 L i) ∧ Ext h.n h h' ∧ t.get 14 = o) ∧ t.n = 91 ∧ t.get 9 = d ∧ t.get 15 = .lit (.int .i64 i)) (fun i => 8 - i) ?_ 0 _ _ ?_
    · rintro i t h' ⟨hi8, ⟨o, ho, eo, g14⟩, hn, g9, g15⟩ ih3
      have o1 := ho.isSl
      have o2 := ho.one
      by_cases hi : i = 8
      · have c1 : ((i : Int) < 8) = False := by simp only [eq_iff_iff, iff_false]; omega
        simp only [core, Nat.reduceAdd, Nat.reduceSub, Nat.reduceMul, Nat.reduceLT, Nat.reduceEqDiff, reduceCtorEq, Nat.reduceLeDiff, Int.reduceLE, Int.reduceLT, Int.reduceToNat, hn, g9, g15, g14, c1, o1]
        refine ⟨EHh.step eo, ?_⟩
        unfold ask15G
        rw [hmd, hlast]
        show IsSl RInt _ h' o (out8 (y.acting ++ askS les xs m (priorF les xs).length) 8)
        rw [← hL, ← hi]
        exact ho.toSl (fun _ hf => hf.elim) (fun b hb => by have := EHh.1; omega)
      have c1 : ((i : Int) < 8) = True := by simp only [eq_iff_iff, iff_true]; omega
      have hwi : IntKind.i64.wrap ((i : Int) + 1) = ((i + 1 : Nat) : Int) := (wrap_in (by omega) (by omega)).trans (by omega)
      have hlo : (out8 L i).length ≤ i := out8_len
      simp only [core, Nat.reduceAdd, Nat.reduceSub, Nat.reduceMul, Nat.reduceLT, Nat.reduceEqDiff, reduceCtorEq, Nat.reduceLeDiff, Int.reduceLE, Int.reduceLT, Int.reduceToNat, hn, g9, g15, g14, c1, d1]
      refine (among15_x (i : Int) (hdsl.ext eo (Nat.le_refl _)) (by omega)).mono ?_
      rintro _ h6 ⟨rfl, rfl⟩
      cases hq : L.contains (i : Int) with
      | true =>
        simp only [core, Nat.reduceAdd, Nat.reduceSub, Nat.reduceMul, Nat.reduceLT, Nat.reduceEqDiff, reduceCtorEq, Nat.reduceLeDiff, Int.reduceLE, Int.reduceLT, Int.reduceToNat, hn, g9, g15, g14, c1, o1, o2]
        obtain ⟨h7, hh7⟩ : ∃ h7, h7 = h6.push (.cells [.lit (.int .i64 (i : Int))] 3) := ⟨_, rfl⟩
        have e7 : Ext h6.n h6 h7 := hh7 ▸ (Ext.refl _ _).push _ (Nat.le_refl _)
        have A7 : h7.at h6.n = some (.cells [.lit (.int .i64 (i : Int))] 3) := hh7 ▸ at_push_n _ _
        rw [← hh7]
        clear hh7
        refine WOp_app ((ho.ext e7 (Nat.le_refl _)).snoc (by kernel_rfl) (by kernel_rfl) (by kernel_rfl) (zv := .lit (.int .i64 0)) (by kernel_rfl) (by' := 8) (by kernel_rfl) rfl (by decide) (by decide) A7 (y := (i : Int)) (RInt_is.2 ⟨rfl, (show I64 (i : Int) from ⟨by omega, by omega⟩)⟩) (by omega) (by omega) (by have := eo.1; have := e7.1; omega)) ?_
        rintro s8 h8 ⟨o8, e8, -⟩
        have s81 := o8.isSl
        simp only [core, Nat.reduceAdd, Nat.reduceSub, Nat.reduceMul, Nat.reduceLT, Nat.reduceEqDiff, reduceCtorEq, Nat.reduceLeDiff, Int.reduceLE, Int.reduceLT, Int.reduceToNat, hn, g9, g15, s81, hwi]
        refine ih3 (i + 1) _ _ ⟨by omega, ⟨s8, by rw [out8_succ, if_pos hq]; exact o8, (eo.step e7).trans e8, by simp only [core, Nat.reduceAdd, Nat.reduceSub, Nat.reduceMul, Nat.reduceLT, Nat.reduceEqDiff, reduceCtorEq, Nat.reduceLeDiff, Int.reduceLE, Int.reduceLT, Int.reduceToNat, hn, g9, g15]⟩, by simp only [core, Nat.reduceAdd, Nat.reduceSub, Nat.reduceMul, Nat.reduceLT, Nat.reduceEqDiff, reduceCtorEq, Nat.reduceLeDiff, Int.reduceLE, Int.reduceLT, Int.reduceToNat, hn, g9, g15]⟩ (by omega)
      | false =>
        simp only [core, Nat.reduceAdd, Nat.reduceSub, Nat.reduceMul, Nat.reduceLT, Nat.reduceEqDiff, reduceCtorEq, Nat.reduceLeDiff, Int.reduceLE, Int.reduceLT, Int.reduceToNat, hn, g9, g15, g14, c1, hwi]
        refine ih3 (i + 1) _ _ ⟨by omega, ⟨o, by rw [out8_succ, if_neg (by rw [hq]; decide), List.append_nil]; exact ho, eo, by simp only [core, Nat.reduceAdd, Nat.reduceSub, Nat.reduceMul, Nat.reduceLT, Nat.reduceEqDiff, reduceCtorEq, Nat.reduceLeDiff, Int.reduceLE, Int.reduceLT, Int.reduceToNat, hn, g9, g15, g14]⟩, by simp only [core, Nat.reduceAdd, Nat.reduceSub, Nat.reduceMul, Nat.reduceLT, Nat.reduceEqDiff, reduceCtorEq, Nat.reduceLeDiff, Int.reduceLE, Int.reduceLT, Int.reduceToNat, hn, g9, g15]⟩ (by omega)
    · refine ⟨by omega, ⟨.lit (.slice none 0 0), OwnL.nil, Ext.refl _ _, by simp only [core, Nat.reduceAdd, Nat.reduceSub, Nat.reduceMul, Nat.reduceLT, Nat.reduceEqDiff, reduceCtorEq, Nat.reduceLeDiff, Int.reduceLE, Int.reduceLT, Int.reduceToNat, hn, g8, g39, g40, g41]⟩, ?_⟩
      simp only [core, Nat.reduceAdd, Nat.reduceSub, Nat.reduceMul, Nat.reduceLT, Nat.reduceEqDiff, reduceCtorEq, Nat.reduceLeDiff, Int.reduceLE, Int.reduceLT, Int.reduceToNat, hn, g8, g39, g40, g41, g9]
      (repeat' apply And.intro) <;> first | rfl | trivial
  · refine ⟨⟨d, y.acting, by unfold askS; simp, by omega, fun o ho => ?_, hd.ext e5 (Nat.le_refl _), Nat.le_refl _, fun b hb _ => rfl, hdA, by simp only [core, Nat.reduceAdd, Nat.reduceSub, Nat.reduceMul, Nat.reduceLT, Nat.reduceEqDiff, reduceCtorEq, Nat.reduceLeDiff, Int.reduceLE, Int.reduceLT, Int.reduceToNat]⟩, by simp only [core, Nat.reduceAdd, Nat.reduceSub, Nat.reduceMul, Nat.reduceLT, Nat.reduceEqDiff, reduceCtorEq, Nat.reduceLeDiff, Int.reduceLE, Int.reduceLT, Int.reduceToNat]; rfl⟩
    obtain ⟨i, hi, rfl⟩ := List.mem_iff_getElem.1 ho
    have := hya.i64 i hi
    rw [List.getD_eq_getElem?_getD, List.getElem?_eq_getElem hi] at this
    exact this
end Go.Proofs.Ytkgbeihcepociaa.Ex
end

section

set_option linter.unusedSimpArgs false
set_option linter.unusedVariables false
set_option maxRecDepth 10000
namespace Go.Proofs.Ytkgbeihcepociaa.Ex
open Go
theorem inc_ext : ∀ {l1 l2 : List Int}, l1.Pairwise (· < ·) → l2.Pairwise (· < ·) → (∀ x, x ∈ l1 ↔ x ∈ l2) → l1 = l2
  | [], [], _, _, _ => rfl
  | [], b :: _, _, _, h => by have := (h b).2 (by simp); cases this
  | a :: _, [], _, _, h => by have := (h a).1 (by simp); cases this
  | a :: r, b :: s, h1, h2, h => by
    rw [List.pairwise_cons] at h1 h2
    have e : a = b := by
      rcases List.mem_cons.1 ((h a).1 (by simp)) with e | e
      · exact e
      · rcases List.mem_cons.1 ((h b).2 (by simp)) with e' | e'
        · exact e'.symm
        · have q1 := h2.1 a e
          have q2 := h1.1 b e'
          omega
    subst e
    congr 1
    refine inc_ext h1.2 h2.2 fun x => ⟨fun hx => ?_, fun hx => ?_⟩
    · rcases List.mem_cons.1 ((h x).1 (by simp [hx])) with e | e
      · have := h1.1 x hx; omega
      · exact e
    · rcases List.mem_cons.1 ((h x).2 (by simp [hx])) with e | e
      · have := h2.1 x hx; omega
      · exact e
theorem srt_le (L : List Int) : (srtI L).Pairwise (· ≤ ·) := by
  have := List.pairwise_mergeSort (le := fun x y : Int => decide (x ≤ y)) (fun a b c h h' => by simp at *; omega) (fun a b => by simp; omega) L
  exact this.imp fun h => by simpa using h
theorem cmp_inc {xs : List Int} (hs : xs.Pairwise (· ≤ ·)) : (cmpI xs).Pairwise (· < ·) := by
  have hge : ∀ j, j < xs.length → xs.toArray[j]! = xs.getD j 0 := fun j hj => by simp [List.getD_eq_getElem?_getD, List.getElem!_eq_getElem?_getD]
  have hle : ∀ j, j + 1 < xs.length → xs.getD j 0 ≤ xs.getD (j + 1) 0 := fun j hj => by
    have := List.pairwise_iff_getElem.1 hs j (j + 1) (by omega) hj (by omega)
    rw [List.getD_eq_getElem?_getD, List.getD_eq_getElem?_getD, List.getElem?_eq_getElem (by omega), List.getElem?_eq_getElem hj]
    exact this
  have key : ∀ m, m ≤ xs.length → (Lib.compactUpTo xs.toArray m).Pairwise (· < ·) ∧ (0 < m → ∀ y ∈ Lib.compactUpTo xs.toArray m, y ≤ xs.getD (m - 1) 0) := fun m => by
    induction m with
    | zero => exact fun _ => ⟨List.Pairwise.nil, fun h => by omega⟩
    | succ m ih =>
      intro hm
      obtain ⟨i1, i2⟩ := ih (by omega)
      rw [Lib.compactUpTo_succ]
      cases hk : Lib.keeps xs.toArray m with
      | false =>
        simp only [Bool.false_eq_true, if_false, List.append_nil]
        refine ⟨i1, fun _ y hy => ?_⟩
        have hm0 : 0 < m := by
          rcases Nat.eq_zero_or_pos m with h | h
          · subst h; simp [Lib.keeps] at hk
          · exact h
        have := i2 hm0 y hy
        have h2 := hle (m - 1) (by omega)
        rw [show m - 1 + 1 = m by omega] at h2
        show y ≤ xs.getD m 0
        omega
      | true =>
        simp only [if_true]
        have hlast : ∀ y ∈ Lib.compactUpTo xs.toArray m, y < xs.getD m 0 := fun y hy => by
          rcases Nat.eq_zero_or_pos m with h | hm0
          · subst h; cases hy
          · have q1 := i2 hm0 y hy
            have h2 := hle (m - 1) (by omega)
            rw [show m - 1 + 1 = m by omega] at h2
            unfold Lib.keeps at hk
            rw [decide_eq_true_eq] at hk
            rcases hk with hk | hk
            · omega
            · rw [hge m (by omega), hge (m - 1) (by omega)] at hk
              omega
        rw [hge m (by omega)]
        refine ⟨List.pairwise_append.2 ⟨i1, List.pairwise_singleton _ _, fun y hy z hz => ?_⟩, fun _ y hy => ?_⟩
        · rw [List.mem_singleton] at hz
          subst hz
          exact hlast y hy
        · show y ≤ xs.getD m 0
          rcases List.mem_append.1 hy with hy | hy
          · have := hlast y hy; omega
          · rw [List.mem_singleton] at hy; omega
  exact (key xs.length (Nat.le_refl _)).1
theorem mem_out8 {L : List Int} {x : Int} : ∀ {i : Nat}, x ∈ out8 L i ↔ x ∈ L ∧ 0 ≤ x ∧ x < (i : Int)
  | 0 => ⟨fun h => (by cases h), fun h => (by omega)⟩
  | i + 1 => by
    rw [out8_succ, List.mem_append, mem_out8 (i := i)]
    by_cases hq : L.contains (i : Int) = true
    · rw [if_pos hq, List.mem_singleton]
      have := List.contains_iff_mem.1 hq
      constructor
      · rintro (⟨a, b, c⟩ | rfl)
        · exact ⟨a, b, by omega⟩
        · exact ⟨this, by omega, by omega⟩
      · rintro ⟨a, b, c⟩
        by_cases h : x = (i : Int)
        · exact .inr h
        · exact .inl ⟨a, b, by omega⟩
    · rw [if_neg hq]
      constructor
      · rintro (⟨a, b, c⟩ | h)
        · exact ⟨a, b, by omega⟩
        · cases h
      · rintro ⟨a, b, c⟩
        refine .inl ⟨a, b, ?_⟩
        by_cases h : x = (i : Int)
        · subst h; exact absurd (List.contains_iff_mem.2 a) hq
        · omega
theorem out8_inc {L : List Int} : ∀ {i : Nat}, (out8 L i).Pairwise (· < ·)
  | 0 => List.Pairwise.nil
  | i + 1 => by
    rw [out8_succ]
    split
    · refine List.pairwise_append.2 ⟨out8_inc, List.pairwise_singleton _ _, fun y hy z hz => ?_⟩
      rw [List.mem_singleton] at hz
      have := (mem_out8.1 hy).2.2
      omega
    · rw [List.append_nil]; exact out8_inc
theorem cmp_out8 {L : List Int} (h : ∀ o ∈ L, 0 ≤ o ∧ o < 8) : cmpI (srtI L) = out8 L 8 :=
  inc_ext (cmp_inc (srt_le L)) out8_inc fun x => by
    rw [mem_sc, mem_out8]
    exact ⟨fun hx => ⟨hx, h x hx⟩, fun hx => hx.1⟩
/-! An osd that acts. -/
theorem down_item {m : MapD} {k x r : Int} : ∀ {n at' o}, downF m k x r n at' = some o → ∃ b ∈ m.buckets, ∃ i, o = b.items.getD i 0
  | 0, at', o, h => by cases h
  | n + 1, at', o, h => by
    unfold downF at h
    cases hb : bucketF m at' with
    | none => rw [hb] at h; cases h
    | some b =>
      rw [hb] at h
      simp only at h
      cases hc : chooseF b.items b.weights x r with
      | none => rw [hc] at h; cases h
      | some i =>
        rw [hc] at h
        simp only at h
        split at h
        · refine ⟨b, ?_, i, (Option.some.inj h).symm⟩
          unfold bucketF at hb
          exact List.mem_of_find?_eq_some hb
        · exact down_item h
theorem item_lt {m : MapD} (hg : goodF m = true) {b : BktD} (hb : b ∈ m.buckets) {i : Nat} {o : Int} (ho : o = b.items.getD i 0) (h0 : 0 ≤ o) : o < 8 := by
  by_cases hi : i < b.items.length
  · obtain ⟨j, hj⟩ := List.mem_iff_getElem?.1 hb
    unfold goodF at hg
    simp only [Bool.and_eq_true, List.all_eq_true] at hg
    have h1 := hg.2 j (List.mem_range.2 (List.getElem?_eq_some_iff.1 hj).1)
    rw [getD_of hj] at h1
    unfold bOk at h1
    simp only [Bool.and_eq_true, List.all_eq_true] at h1
    have h2 := h1.2 i (List.mem_range.2 hi)
    unfold itemOk at h2
    simp only [Bool.and_eq_true, decide_eq_true_eq] at h2
    have h3 := h2.1.1
    rw [← ho] at h3
    unfold kindF at h3
    rw [if_pos h0] at h3
    split at h3
    · assumption
    · omega
  · rw [List.getD_eq_getElem?_getD, List.getElem?_eq_none (by omega)] at ho
    rw [ho]
    decide
theorem try_lt {m : MapD} (hg : goodF m = true) {x root r o d : Int} {s : List Int × List Int} (h : tryR m x root s r = some (o, d)) : o < 8 := by
  have hm := (tryR_may h).1
  have h0 : 0 ≤ o := by
    unfold mayF at hm
    split at hm
    · assumption
    · cases hm
  unfold tryR at h
  cases hd : downF m m.leaf x r 4 root with
  | none => rw [hd] at h; cases h
  | some d' =>
    rw [hd] at h
    simp only at h
    split at h
    · cases h
    · by_cases hneg : d' < 0
      · rw [if_pos hneg] at h
        cases hd2 : downF m 0 x r 4 d' with
        | none => rw [hd2] at h; cases h
        | some o' =>
          rw [hd2] at h
          simp only at h
          split at h
          · cases h
          · cases h
            obtain ⟨b, hb, i, hi⟩ := down_item hd2
            exact item_lt hg hb hi h0
      · rw [if_neg hneg] at h
        simp only at h
        split at h
        · cases h
        · cases h
          obtain ⟨b, hb, i, hi⟩ := down_item hd
          exact item_lt hg hb hi h0
theorem first_lt {m : MapD} (hg : goodF m = true) {x root : Int} {s : List Int × List Int} {k : Nat} : ∀ {n o d}, firstR m x root s k n = some (o, d) → o < 8
  | 0, o, d, h => by rw [firstR] at h; cases h
  | n + 1, o, d, h => by
    rw [firstR] at h
    cases hf : firstR m x root s k n with
    | some y => rw [hf] at h; cases h; exact first_lt hg hf
    | none => rw [hf] at h; exact try_lt hg h
theorem sel_lt {m : MapD} (hg : goodF m = true) {x root : Int} : ∀ k, ∀ o ∈ (selN m x root k).1, o < 8
  | 0 => fun o ho => by cases ho
  | k + 1 => fun o ho => by
    rw [selN] at ho
    unfold copyR at ho
    cases hf : firstR m x root (selN m x root k) k 50 with
    | none => rw [hf] at ho; exact sel_lt hg k o ho
    | some y =>
      rw [hf] at ho
      obtain ⟨o', d'⟩ := y
      rcases List.mem_append.1 ho with ho | ho
      · exact sel_lt hg k o ho
      · rw [List.mem_singleton] at ho
        subst ho
        exact first_lt hg hf
theorem act_lt {m : MapD} {pool seed : Int} : ∀ o ∈ actF m pool seed, o < 8 := fun o ho => by
  unfold actF at ho
  cases hp : poolF m pool with
  | none => rw [hp] at ho; cases ho
  | some pl =>
    rw [hp] at ho
    simp only at ho
    split at ho
    · cases ho
    · unfold selectF at ho
      split at ho
      · rename_i hg
        split at ho
        · cases ho
        · exact sel_lt hg _ o ho
      · cases ho
theorem ask_same {pool seed les : Int} {ms : List MapD} {m : MapD} : askG les (ivsF pool seed ms) m = ask15G les (ivsF pool seed ms) m := by
  have key : ∀ x ∈ ivsF pool seed ms, ∀ o ∈ x.acting, 0 ≤ o ∧ o < 8 := fun x hx o ho => by
    obtain ⟨k, hk⟩ := ivs_nat x hx o ho
    refine ⟨by omega, ?_⟩
    unfold ivsF at hx
    obtain ⟨r, -, rfl⟩ := List.mem_map.1 hx
    exact act_lt o ho
  unfold askG ask15G
  cases hl : (ivsF pool seed ms).getLast? with
  | none => rfl
  | some y =>
    refine cmp_out8 fun o ho => ?_
    rw [List.mem_append, mem_askS] at ho
    rcases ho with ho | ⟨x, hx, h1, -⟩
    · exact key y (List.mem_of_getLast? hl) o ho
    · exact key x (List.dropLast_subset _ (List.mem_filter.1 hx).1) o h1
end Go.Proofs.Ytkgbeihcepociaa.Ex
end
