/- Part 14 of the proof: Ivl, Jn, Ivo, IntervalAllWalk. -/
import Derived.Test.YtkgbeihcepociaaM13
section

set_option linter.unusedSimpArgs false
set_option linter.unusedVariables false
set_option maxRecDepth 10000
set_option maxHeartbeats 4000000
namespace Go.Proofs.Ytkgbeihcepociaa.Ex
open Go
theorem two_ok : ∀ m ∈ twoD, OkMp m := by
  intro m hm
  simp only [twoD, List.mem_cons, List.not_mem_nil, or_false] at hm
  rcases hm with rfl | rfl
  all_goals
    refine ⟨⟨by unfold Sm; decide, fun _ _ => trivial⟩, ⟨by unfold Sm; decide, fun _ _ => trivial⟩, ⟨by unfold Sm; decide, fun y hy => ?_⟩⟩
    have hy : y ∈ [bktT] := hy
    rw [List.mem_singleton] at hy
    subst hy
    exact ⟨by unfold Sm; decide, by unfold Sm; decide⟩
theorem two_ivs : (ivsF 1 0 twoD).map (fun x => (x.first, x.last, x.mayRw)) = [(1, 1, true), (2, 2, false)] := by decide +kernel
theorem two_first : firstF 1 0 twoD = 2 := by decide +kernel
theorem two_prior : (priorF 0 (ivsF 1 0 twoD)).length = 1 := by decide +kernel
theorem lives15_x {H : AH} : WC Try.prog (tabOf Try.prog NT0) S0 31 [] H fun r h' => Ext H.n H h' ∧ r = .lit (.bool true) := by
  refine WC_fn Try.func31 rfl rfl ?_
  simp only [core, Nat.reduceAdd, Nat.reduceSub, Nat.reduceMul, Nat.reduceLT, Nat.reduceEqDiff, reduceCtorEq, Nat.reduceLeDiff, Int.reduceLE, Int.reduceLT, Int.reduceToNat, Try.ntmps31]
  obtain ⟨h1, hh1⟩ : ∃ h1, h1 = H.push (.cells [.lit (.int .i64 1), .lit (.int .i64 0)] 56) := ⟨_, rfl⟩
  have E1 : Ext H.n H h1 := hh1 ▸ (Ext.refl _ _).push _ (Nat.le_refl _)
  have P1 : h1.at H.n = some (.cells [.lit (.int .i64 1), .lit (.int .i64 0)] 56) := hh1 ▸ at_push_n _ _
  rw [← hh1]
  clear hh1
  have lp1 := at_lt P1
  have LP1 := ld_at (T := tabOf Try.prog NT0) P1
  rw [WB_regionD [1, 0, 2, 3] 29440 (by kernel_rfl)]
  repeat ((with_reducible refine WDM_cons ?_; simp only [dw1]; try simp only [dw2, Nat.reduceAdd, Nat.reduceMul, Nat.reduceShiftRight, Nat.reduceMod, Nat.reduceEqDiff]); simp only [core, Nat.reduceAdd, Nat.reduceSub, Nat.reduceMul, Nat.reduceLT, Nat.reduceEqDiff, reduceCtorEq, Nat.reduceLeDiff, Int.reduceLE, Int.reduceLT, Int.reduceToNat, cored, LP1, lp1])
  refine two_x.mono ?_
  rintro v h2 ⟨e2, hv⟩
  have E2 := E1.step e2
  have P2 := (e2.2 _ lp1).trans P1
  have lp2 := at_lt P2
  have LP2 := ld_at (T := tabOf Try.prog NT0) P2
  have v1 := hv.isSl
  repeat ((with_reducible refine WDM_cons ?_; simp only [dw1]; try simp only [dw2, Nat.reduceAdd, Nat.reduceMul, Nat.reduceShiftRight, Nat.reduceMod, Nat.reduceEqDiff]); simp only [core, Nat.reduceAdd, Nat.reduceSub, Nat.reduceMul, Nat.reduceLT, Nat.reduceEqDiff, reduceCtorEq, Nat.reduceLeDiff, Int.reduceLE, Int.reduceLT, Int.reduceToNat, cored, LP2, lp2, v1])
  refine (all_x 1 0 hv (by unfold Sm; decide) two_ok).mono ?_
  rintro r h3 ⟨e3, n0, -, ho⟩
  have E3 := E2.step e3
  have r1 := ho.isSl
  have r2 := ho.lenD
  have hr := ho.toSl (F := fun _ => True) (fun _ _ => trivial) (fun _ _ => trivial)
  obtain ⟨xs, hxs⟩ : ∃ xs, xs = ivsF 1 0 twoD := ⟨_, rfl⟩
  have hmap := two_ivs
  have hpr := two_prior
  have hac := fun x hx => ivs_ok (pool := 1) (seed := 0) (ms := twoD) x hx
  rw [← hxs] at hr r2 hmap hpr hac
  obtain ⟨x, y, rfl⟩ : ∃ x y, xs = [x, y] := by
    match xs, hmap with
    | [x, y], _ => exact ⟨x, y, rfl⟩
    | [], h => simp at h
    | [_], h => simp at h
    | _ :: _ :: _ :: _, h => simp at h
  simp only [List.map_cons, List.map_nil, List.cons.injEq, Prod.mk.injEq, and_true] at hmap
  obtain ⟨⟨f1, f2, f3⟩, g1, g2, g3⟩ := hmap
  obtain ⟨c, hc1, hld, hld0⟩ := hr.at (T := tabOf Try.prog NT0) RIv_z (i := 0) rfl
  obtain ⟨va, vb, rfl, -⟩ := RIv_is.1 hc1
  obtain ⟨c, hc2, hld', hld0'⟩ := hr.at (T := tabOf Try.prog NT0) RIv_z (i := 1) rfl
  obtain ⟨ua, ub, rfl, -⟩ := RIv_is.1 hc2
  simp only [Nat.zero_mul, Nat.add_zero, Nat.one_mul, f1, f2, f3, g3] at hld hld0 hld' hld0'
  have r2 : lenD r = 2 := r2
  have P3 := (e3.2 _ lp2).trans P2
  have lp3 := at_lt P3
  repeat ((with_reducible refine WDM_cons ?_; simp only [dw1]; try simp only [dw2, Nat.reduceAdd, Nat.reduceMul, Nat.reduceShiftRight, Nat.reduceMod, Nat.reduceEqDiff]); simp only [core, Nat.reduceAdd, Nat.reduceSub, Nat.reduceMul, Nat.reduceLT, Nat.reduceEqDiff, reduceCtorEq, Nat.reduceLeDiff, Int.reduceLE, Int.reduceLT, Int.reduceToNat, cored, r1])
  rw [WB_regionD [0, 1, 2, 3, 4, 5, 6, 7, 8, 9, 10, 11, 12, 13, 14, 15, 16, 17, 18, 19, 20, 21, 22, 23, 24, 25, 26, 27, 28, 29, 30, 31, 32, 33, 34, 35, 36, 38, 37, 39, 40, 41, 42] 20110922251646537642132421906151569872943364259989109016880945412238388916792015009970852157851158110947368603491339289596345835558468903417571743530785022850888530136036152000767647319844125367678496370972940275815732132005785689859647616858718016294671913686963794017969212488819327369349009283321050081721442510910207782513382829651839254863670035665280922732301997373115565987903096236233199972629241155340038622978175260730195761315607033448893122584077788098250363931884127106218521008806390542039810619045307074896813133560438831211869258899880148992 (by kernel_rfl)]
  have hk : (((2 : Nat) : Int) == 2) = true := rfl
  have hk1 : ((1 : Int) == 1) = true := rfl
  have hk2 : 0 < 2 := by decide
  have hk3 : 1 < 2 := by decide
  repeat ((with_reducible refine WDM_cons ?_; simp only [dw1]; try simp only [dw2, Nat.reduceAdd, Nat.reduceMul, Nat.reduceShiftRight, Nat.reduceMod, Nat.reduceEqDiff]); simp only [core, Nat.reduceAdd, Nat.reduceSub, Nat.reduceMul, Nat.reduceLT, Nat.reduceEqDiff, reduceCtorEq, Nat.reduceLeDiff, Int.reduceLE, Int.reduceLT, Int.reduceToNat, cored, r1, r2, hk, hk1, hk2, hk3, hld, hld0, hld', hld0'])
  refine (prior_x 0 hr (by show 2 * 72 ≤ _; decide) (fun z hz => by have := hac z hz; omega)).mono ?_
  rintro q h4 ⟨e4, hq⟩
  have E4 := E3.step e4
  have q1 := hq.isSl
  have q2 := hq.lenD
  rw [hpr] at q2
  have P4 := (e4.2 _ lp3).trans P3
  have lp4 := at_lt P4
  have LP4 := ld_at (T := tabOf Try.prog NT0) P4
  have hk4 : (((1 : Nat) : Int) == 1) = true := rfl
  repeat ((with_reducible refine WDM_cons ?_; simp only [dw1]; try simp only [dw2, Nat.reduceAdd, Nat.reduceMul, Nat.reduceShiftRight, Nat.reduceMod, Nat.reduceEqDiff]); simp only [core, Nat.reduceAdd, Nat.reduceSub, Nat.reduceMul, Nat.reduceLT, Nat.reduceEqDiff, reduceCtorEq, Nat.reduceLeDiff, Int.reduceLE, Int.reduceLT, Int.reduceToNat, cored, q1, q2, hk4, LP4, lp4])
  refine two_x.mono ?_
  rintro v' h5 ⟨e5, hv'⟩
  have E5 := E4.step e5
  have P5 := (e5.2 _ lp4).trans P4
  have lp5 := at_lt P5
  have LP5 := ld_at (T := tabOf Try.prog NT0) P5
  have v1' := hv'.isSl
  repeat ((with_reducible refine WDM_cons ?_; simp only [dw1]; try simp only [dw2, Nat.reduceAdd, Nat.reduceMul, Nat.reduceShiftRight, Nat.reduceMod, Nat.reduceEqDiff]); simp only [core, Nat.reduceAdd, Nat.reduceSub, Nat.reduceMul, Nat.reduceLT, Nat.reduceEqDiff, reduceCtorEq, Nat.reduceLeDiff, Int.reduceLE, Int.reduceLT, Int.reduceToNat, cored, LP5, lp5, v1'])
  refine (first_x 1 0 hv' (by unfold Sm; decide) two_ok).mono ?_
  rintro _ h6 ⟨e6, rfl⟩
  rw [two_first]
  have hk5 : ((2 : Int) == 2) = true := rfl
  repeat ((with_reducible refine WDM_cons ?_; simp only [dw1]; try simp only [dw2, Nat.reduceAdd, Nat.reduceMul, Nat.reduceShiftRight, Nat.reduceMod, Nat.reduceEqDiff]); simp only [core, Nat.reduceAdd, Nat.reduceSub, Nat.reduceMul, Nat.reduceLT, Nat.reduceEqDiff, reduceCtorEq, Nat.reduceLeDiff, Int.reduceLE, Int.reduceLT, Int.reduceToNat, cored, hk5])
  exact E5.step e6
end Go.Proofs.Ytkgbeihcepociaa.Ex
end

section

set_option linter.unusedSimpArgs false
set_option linter.unusedVariables false
namespace Go.Proofs.Ytkgbeihcepociaa.Ex
open Go Go.RowKit Go.ChangeShapes Go.WideShapes Go.ChangeAt
theorem rels_absV {ρ : Nat → Value} {w : World} : ∀ {cs : List Value}, (∀ c ∈ cs, c.oneCell' = true) → rels ρ (mu0 w) w (cs.map (absV w)) cs
  | [], _ => rels_nil
  | c :: r, h => rels_cons (absV_rel (h c (by simp))) (rels_absV fun x hx => h x (by simp [hx]))
theorem law_join {W : World} {f : FuncId} {vs : List Value} {avs : List AV} (ha : rels (fun _ => default) (mu0 W) W avs vs) (hw : WC Try.prog (tabOf Try.prog NT0) S0 f avs (absH W) fun v h' => v = .lit (.bool true)) :
    Calls Try.prog f vs.toArray W fun e w' => e = .returned (.bool true) ∧ Below W.heap.size W w' := by
  obtain ⟨n, o, h1, hex, v, cm, rfl, rfl⟩ := hw
  refine (ex_callsH tab_sound noNG follows_mixed (sums_ok _ _) (absH_hr W) (absH_nw W) hex ha).mono fun e w' hy => ?_
  obtain ⟨v', μ', rfl, hb, hv⟩ := hy
  exact ⟨by rw [rel_bool_inv hv], hb⟩
theorem open_agg {P : Program} {H : Type} {enc : TypeId × Value → H} {W : World} {base : Nat} {t : TypeId} {v0 : Value} {d0 : DataW H} {p0 : List MemPlace} {d : TypeDesc} {α : Type} {R : Rep α} {B : α → Prop} (hO : OpensA enc P W t R B) (hu : P.underlying t = some d) (hd : isAggD d = true)
    (k0 : Value.okWide P W .any base t v0) (h0 : DataW.Trod enc P W 0 (fun _ => true) true t v0 d0 p0) (hw : ∀ n ∈ d0.weights P t, n ≤ reachBytes) :
    ∃ (cs : List AV) (y : α), rel (fun _ => default) (mu0 W) W (.agg cs) v0 ∧ R.is (InH W) (absH W) cs y ∧ B y := by
  obtain ⟨cs, rfl, h1, h2⟩ := okWide_agg hu hd k0
  obtain ⟨fuel, hf⟩ := h0
  obtain ⟨h3, h4, y, h5, h6⟩ := hO.2 fuel cs.toList _ hf (List.all_eq_true.2 fun n hn => (by simpa using hw n hn))
  refine ⟨_, y, ?_, h5, h6⟩
  unfold rel
  exact ⟨cs.toList, by simp, rels_absV h4⟩
end Go.Proofs.Ytkgbeihcepociaa.Ex
end

section

set_option linter.unusedSimpArgs false
set_option linter.unusedVariables false
namespace Go.Proofs.Ytkgbeihcepociaa.Ex
open Go Go.RowKit Go.ChangeShapes Go.WideShapes Go.ChangeAt
theorem open_sl {P : Program} {H : Type} {enc : TypeId × Value → H} {W : World} {base : Nat} {t e : TypeId} {v0 : Value} {d0 : DataW H} {p0 : List MemPlace} {α : Type} {R : Rep α} {B : List α → Prop} (hO : OpensA enc P W t (RSl R) B) (hu : P.underlying t = some (.slice e))
    (k0 : Value.okWide P W .any base t v0) (h0 : DataW.Trod enc P W 0 (fun _ => true) true t v0 d0 p0) (hw : ∀ n ∈ d0.weights P t, n ≤ reachBytes) :
    ∃ (v : AV) (ys : List α), rel (fun _ => default) (mu0 W) W v v0 ∧ IsSl R (InH W) (absH W) v ys ∧ B ys := by
  obtain ⟨a, len, cap, rfl⟩ := okWide_slice hu k0
  obtain ⟨fuel, hf⟩ := h0
  obtain ⟨h3, h4, y, h5, h6⟩ := hO.2 fuel [Value.slice a len cap] _ hf (List.all_eq_true.2 fun n hn => (by simpa using hw n hn))
  obtain ⟨v', e', h5⟩ := RSl_is.1 h5
  cases e'
  exact ⟨_, y, absV_rel (h4 _ (by simp)), h5, h6⟩
end Go.Proofs.Ytkgbeihcepociaa.Ex
end

section

set_option linter.unusedSimpArgs false
set_option linter.unusedVariables false
set_option maxRecDepth 10000
set_option maxHeartbeats 4000000
namespace Go.Proofs.Ytkgbeihcepociaa.Ex
open Go Go.RowKit Go.ChangeShapes Go.WideShapes Go.ChangeAt
/-- An own row may be written over. -/
theorem OwnL.row {α : Type} {R : Rep α} {G : Nat → Prop} {n0 : Nat} {h : AH} {v : AV} {e : TypeId} {xs : List α} (ho : OwnL R G n0 h v e xs) (hne : xs ≠ []) : ∃ p row, v = .sl p 0 xs.length (.un R.z) ∧ n0 ≤ p ∧ h.at p = some (.cells row e) ∧ row.length = xs.length * R.z := by
  obtain ⟨L, h1, h2⟩ := ho
  have e0 := h2.1
  rcases h1.2 with ⟨rfl, rfl⟩ | ⟨p, rfl, hp, hat⟩
  · exact absurd (List.eq_nil_of_length_eq_zero (by rw [← e0]; rfl)) hne
  · exact ⟨p, L.flatten, by rw [e0], hp, hat, by rw [flat_len h1.1, e0]⟩
theorem put_ok {l c : List AV} {i : Nat} (h : i + c.length ≤ l.length) : ∃ l', put l i c = some l' ∧ l'.length = l.length := by
  have : put l i c = some (l.take i ++ c ++ l.drop (i + c.length)) := by unfold put; rw [if_pos h]
  exact ⟨_, this, put_length this⟩
section
variable {P : Program} {T : TT} {t : TM} {h : AH} {e : TypeId} {d : Option Tmp}
/-- A function held against nil. -/
def isFnT (T : TT) (t : TypeId) : Bool := match und T t with
  | some (.func ..) => true
  | _ => false
theorem a_eqnilf {i f ty : Nat} {ps : String} {af : Array Edge} {g : Option (Nat × Bool)} (hT : isFnT T e = true) : aop P T ⟨d, .binOp .eql e (.tmp i) (.const .nilFunc) f, ty, ps, af, g⟩ t h = (match t.get i with
    | .fn _ _ _ => some (.val (.lit (.bool false)), h)
    | _ => aBin P T ⟨d, .binOp .eql e (.tmp i) (.const .nilFunc) f, ty, ps, af, g⟩ t h .eql e (.tmp i) (.const .nilFunc)) := by
  rw [a_bin]
  split
  · rename_i b off c hv
    unfold isFnT at hT
    split at hT
    case h_2 => cases hT
    rename_i hu
    have hn : litOp P ⟨d, .binOp .eql e (.tmp i) (.const .nilFunc) f, ty, ps, af, g⟩ t = none := by
      unfold litOp
      rw [if_neg]
      simp [Op.operands, litAll, ev_tmp, hv, toVal]
    unfold aBin
    simp only [ev_tmp, hv, ev_nilf]
    simp only [orLit, hn, aSame, hu, ev_tmp, hv, ev_nilf, sameA]
  · rfl
end
theorem WB_indE {P : Program} {T : TT} {S : Sums} {k : List AI} {ι : Type} (Inv : ι → FE → KK → TM → AH → Prop) (ms : ι → Nat) {c : Code}
    (body : ∀ i E K t h, Inv i E K t h → (∀ j E' K' t' h', Inv j E' K' t' h' → ms j < ms i → WB P T S E' t' (.lp c :: k) h' K') → WB P T S E t (.code c :: .lp c :: k) h K) :
    ∀ i E K t h, Inv i E K t h → WB P T S E t (.lp c :: k) h K := by
  have key : ∀ n i E K t h, ms i = n → Inv i E K t h → WB P T S E t (.lp c :: k) h K := fun n => by
    induction n using Nat.strongRecOn with
    | _ n ih =>
      intro i E K t h hn hi
      rw [WB_lp]
      exact body i E K t h hi fun j E' K' t' h' hj hlt => ih (ms j) (by omega) j E' K' t' h' rfl hj
  exact fun i E K t h hi => key _ i E K t h rfl hi
/-- What is to be told at the end, when some blocks are to be taken up. -/
def KOK (p : Nat) (ty : TypeId) (K : KK) (DS : List Nat) : Prop := ∀ t' h', t'.get 4 = .ptr p 0 → h'.at p = some (.cells [.lit (.bool true)] ty) → (∀ d ∈ DS, h'.at d = some .defd) → K (some .ret) t' h'
theorem KOK.cons {p d : Nat} {ty : TypeId} {K : KK} {DS : List Nat} (hk : KOK p ty K DS) (hd : d ∉ DS) (hp : d ≠ p) : KOK p ty (fun j t' h' => h'.at d = some .defd ∧ K j t' (h'.put d .gone)) (d :: DS) := fun t' h' h1 h2 h3 =>
  ⟨h3 d (by simp), hk t' _ h1 ((at_put_ne _ hp).trans h2) fun x hx => (at_put_ne _ (fun e => hd (by subst e; exact hx))).trans (h3 x (by simp [hx]))⟩
theorem intervalAll_m {F : Nat → Prop} {H : AH} {v : AV} {ms : List MapD} (pool seed : Int) (hv : IsSl RMp F H v ms) (hF : ∀ b, F b → b < H.n) (hl : Sm 88 ms) (hok : ∀ m ∈ ms, OkMp m) :
    WC Try.prog (tabOf Try.prog NT0) S0 7 [v, pgV pool seed] H fun r h' => r = .lit (.bool true) := by
  refine WC_fn Try.func7 rfl rfl ?_
  have s1 := hv.isSl
  have s2 := hv.lenD
  have hl' := hl
  unfold Sm at hl'
  simp only [core, Nat.reduceAdd, Nat.reduceSub, Nat.reduceMul, Nat.reduceLT, Nat.reduceEqDiff, reduceCtorEq, Nat.reduceLeDiff, Int.reduceLE, Int.reduceLT, Int.reduceToNat, Try.ntmps7, pgV, s1, s2]
  obtain ⟨h1, hh1⟩ : ∃ h1, h1 = (H.push (pgB pool seed)).push (.cells [.lit (.bool false)] 4) := ⟨_, rfl⟩
  have E1 : Ext H.n H h1 := hh1 ▸ ((Ext.refl _ _).push _ (Nat.le_refl _)).push _ (by rw [n_push]; omega)
  have P1 : h1.at H.n = some (pgB pool seed) := hh1 ▸ (at_push_lt _ (by rw [n_push]; omega)).trans (at_push_n _ _)
  have R1 : h1.at (H.n + 1) = some (.cells [.lit (.bool false)] 4) := hh1 ▸ at_push_n _ _
  unfold pgB at hh1
  rw [← hh1]
  clear hh1
  have lp1 := at_lt P1
  have lr1 := at_lt R1
  refine (few_x (hv.ext E1 (Nat.le_refl _)) hl).mono ?_
  rintro _ h2 ⟨e2, bf, rfl⟩
  have E2 := E1.step e2
  have P2 := (e2.2 _ lp1).trans P1
  have R2 := (e2.2 _ lr1).trans R1
  have lp2 := at_lt P2
  have lr2 := at_lt R2
  have LP2 := ld_at (T := tabOf Try.prog NT0) P2
  unfold pgB at LP2
  cases bf with
  | false =>
    simp only [core, Nat.reduceAdd, Nat.reduceSub, Nat.reduceMul, Nat.reduceLT, Nat.reduceEqDiff, reduceCtorEq, Nat.reduceLeDiff, Int.reduceLE, Int.reduceLT, Int.reduceToNat]
    refine lives15_x.mono ?_
    rintro _ h3 ⟨e3, rfl⟩
    have R3 := (e3.2 _ lr2).trans R2
    have lr3 := at_lt R3
    simp only [core, Nat.reduceAdd, Nat.reduceSub, Nat.reduceMul, Nat.reduceLT, Nat.reduceEqDiff, reduceCtorEq, Nat.reduceLeDiff, Int.reduceLE, Int.reduceLT, Int.reduceToNat, R3, lr3]
  | true =>
  simp only [core, Nat.reduceAdd, Nat.reduceSub, Nat.reduceMul, Nat.reduceLT, Nat.reduceEqDiff, reduceCtorEq, Nat.reduceLeDiff, Int.reduceLE, Int.reduceLT, Int.reduceToNat, s1, s2, LP2, lp2]
  rw [WB_regionD [0, 1, 3, 4, 6, 2, 5, 7, 8] 1205374822471155621560320 (by kernel_rfl)]
  repeat ((with_reducible refine WDM_cons ?_; simp only [dw1]; try simp only [dw2, Nat.reduceAdd, Nat.reduceMul, Nat.reduceShiftRight, Nat.reduceMod, Nat.reduceEqDiff]); simp only [core, Nat.reduceAdd, Nat.reduceSub, Nat.reduceMul, Nat.reduceLT, Nat.reduceEqDiff, reduceCtorEq, Nat.reduceLeDiff, Int.reduceLE, Int.reduceLT, Int.reduceToNat, cored, LP2, lp2, s1, s2])
  obtain ⟨h3, hh3⟩ : ∃ h3, h3 = h2.push (.cells [.lit (.slice none 0 0)] 59) := ⟨_, rfl⟩
  have e3 : Ext h2.n h2 h3 := hh3 ▸ (Ext.refl _ _).push _ (Nat.le_refl _)
  have W3 : h3.at h2.n = some (.cells [.lit (.slice none 0 0)] 59) := hh3 ▸ at_push_n _ _
  rw [← hh3]
  clear hh3
  have E3 := E2.step e3
  refine (all_x pool seed (hv.ext E3 (Nat.le_refl _)) hl hok).mono ?_
  rintro r h4 ⟨e4, n0, hn0, hown⟩
  have E4 := E3.step e4
  have P4 := (e4.2 _ (by have := e3.1; omega)).trans ((e3.2 _ lp2).trans P2)
  have R4 := (e4.2 _ (by have := e3.1; omega)).trans ((e3.2 _ lr2).trans R2)
  have W4 := (e4.2 _ (at_lt W3)).trans W3
  have lp4 := at_lt P4
  have lr4 := at_lt R4
  have LP4 := ld_at (T := tabOf Try.prog NT0) P4
  unfold pgB at LP4
  have r1 := hown.isSl
  have r2 := hown.lenD
  repeat ((with_reducible refine WDM_cons ?_; simp only [dw1]; try simp only [dw2, Nat.reduceAdd, Nat.reduceMul, Nat.reduceShiftRight, Nat.reduceMod, Nat.reduceEqDiff]); simp only [core, Nat.reduceAdd, Nat.reduceSub, Nat.reduceMul, Nat.reduceLT, Nat.reduceEqDiff, reduceCtorEq, Nat.reduceLeDiff, Int.reduceLE, Int.reduceLT, Int.reduceToNat, cored, LP4, lp4, s1, s2, r1])
  refine (all15_x pool seed (hv.ext E4 (Nat.le_refl _)) hl hok).mono ?_
  rintro q h5 ⟨e5, n1, hn1, hownq⟩
  have E5 := E4.step e5
  have P5 := (e5.2 _ lp4).trans P4
  have R5 := (e5.2 _ lr4).trans R4
  have W5 := (e5.2 _ (at_lt W4)).trans W4
  have lp5 := at_lt P5
  have lr5 := at_lt R5
  have lw5 := at_lt W5
  have q1 := hownq.isSl
  have q2 := hownq.lenD
  have q3 := hownq.one
  repeat ((with_reducible refine WDM_cons ?_; simp only [dw1]; try simp only [dw2, Nat.reduceAdd, Nat.reduceMul, Nat.reduceShiftRight, Nat.reduceMod, Nat.reduceEqDiff]); simp only [core, Nat.reduceAdd, Nat.reduceSub, Nat.reduceMul, Nat.reduceLT, Nat.reduceEqDiff, reduceCtorEq, Nat.reduceLeDiff, Int.reduceLE, Int.reduceLT, Int.reduceToNat, cored, W5, lw5, s1, s2, r1, q1, q3])
  obtain ⟨h6, hh6⟩ : ∃ h6, h6 = h5.put h2.n (.cells [q] 59) := ⟨_, rfl⟩
  have E6 : Ext H.n H h6 := hh6 ▸ E5.put _ E2.1
  have W6 : h6.at h2.n = some (.cells [q] 59) := hh6 ▸ at_put_same _ lw5
  have q6 : ∀ b, b ≠ h2.n → h6.at b = h5.at b := fun b hb => hh6 ▸ at_put_ne _ (fun h => hb h.symm)
  have n6 : h6.n = h5.n := by rw [hh6, n_put]
  rw [← hh6]
  clear hh6
  have P6 := (q6 H.n (by omega)).trans P5
  have R6 := (q6 (H.n + 1) (by omega)).trans R5
  have lp6 := at_lt P6
  have lr6 := at_lt R6
  have lw6 := at_lt W6
  have LP6 := ld_at (T := tabOf Try.prog NT0) P6
  unfold pgB at LP6
  have LW6 := ld_at (T := tabOf Try.prog NT0) W6
  have hle3 := e3.1
  have hlt23 := at_lt W3
  have hown6 := (hown.ext e5 (Nat.le_refl _)).below (fun _ h => h) (fun b hb => q6 b (by omega))
  have hownq6 := hownq.below (fun _ h => h) (fun b hb => q6 b (by have := e4.1; omega))
  have hr6 := hown6.toSl (F := fun b => n0 ≤ b) (fun _ h => h) (fun _ h => h)
  have hq6 := hownq6.toSl (F := fun b => n1 ≤ b) (fun _ h => h) (fun _ h => h)
  have hil := ivsF_len (pool := pool) (seed := seed) (ms := ms)
  have hac := fun x hx => ivs_ok (pool := pool) (seed := seed) (ms := ms) x hx
  obtain ⟨xs, hxs⟩ : ∃ xs, xs = ivsF pool seed ms := ⟨_, rfl⟩
  rw [← hxs] at hown hr6 hq6 hown6 hownq6 r2 q2 hil hac
  rw [WB_regionD [0, 1, 2, 3, 4, 5, 6, 8, 9, 7, 10, 11, 12] 374075901509529258548573951575611274240323879960576 (by kernel_rfl)]
  repeat ((with_reducible refine WDM_cons ?_; simp only [dw1]; try simp only [dw2, Nat.reduceAdd, Nat.reduceMul, Nat.reduceShiftRight, Nat.reduceMod, Nat.reduceEqDiff]); simp only [core, Nat.reduceAdd, Nat.reduceSub, Nat.reduceMul, Nat.reduceLT, Nat.reduceEqDiff, reduceCtorEq, Nat.reduceLeDiff, Int.reduceLE, Int.reduceLT, Int.reduceToNat, cored, LW6, lw6, r1, q1])
  refine (same15_x hr6 hq6 (by omega) (fun z hz => by have := hac z hz; omega)).mono ?_
  rintro _ h7 ⟨e7, rfl⟩
  have hself : eqIvs xs xs = true := eqIvs_iff.2 rfl
  rw [hself]
  have E7 := E6.step e7
  have P7 := (e7.2 _ lp6).trans P6
  have lp7 := at_lt P7
  have LP7 := ld_at (T := tabOf Try.prog NT0) P7
  unfold pgB at LP7
  repeat ((with_reducible refine WDM_cons ?_; simp only [dw1]; try simp only [dw2, Nat.reduceAdd, Nat.reduceMul, Nat.reduceShiftRight, Nat.reduceMod, Nat.reduceEqDiff]); simp only [core, Nat.reduceAdd, Nat.reduceSub, Nat.reduceMul, Nat.reduceLT, Nat.reduceEqDiff, reduceCtorEq, Nat.reduceLeDiff, Int.reduceLE, Int.reduceLT, Int.reduceToNat, cored, LP7, lp7, s1])
  refine (first_x pool seed (hv.ext E7 (Nat.le_refl _)) hl hok).mono ?_
  rintro _ h8 ⟨e8, rfl⟩
  have E8 := E7.step e8
  have P8 := (e8.2 _ lp7).trans P7
  have lp8 := at_lt P8
  have LP8 := ld_at (T := tabOf Try.prog NT0) P8
  unfold pgB at LP8
  repeat ((with_reducible refine WDM_cons ?_; simp only [dw1]; try simp only [dw2, Nat.reduceAdd, Nat.reduceMul, Nat.reduceShiftRight, Nat.reduceMod, Nat.reduceEqDiff]); simp only [core, Nat.reduceAdd, Nat.reduceSub, Nat.reduceMul, Nat.reduceLT, Nat.reduceEqDiff, reduceCtorEq, Nat.reduceLeDiff, Int.reduceLE, Int.reduceLT, Int.reduceToNat, cored, LP8, lp8, s1])
  refine (first15_x pool seed (hv.ext E8 (Nat.le_refl _)) hl hok).mono ?_
  rintro _ h9 ⟨e9, rfl⟩
  have e69 : Ext h6.n h6 h9 := (e7.step e8).step e9
  have E9 := E8.step e9
  have hff : (firstF pool seed ms != firstF pool seed ms) = false := bne_self_eq_false _
  repeat ((with_reducible refine WDM_cons ?_; simp only [dw1]; try simp only [dw2, Nat.reduceAdd, Nat.reduceMul, Nat.reduceShiftRight, Nat.reduceMod, Nat.reduceEqDiff]); simp only [core, Nat.reduceAdd, Nat.reduceSub, Nat.reduceMul, Nat.reduceLT, Nat.reduceEqDiff, reduceCtorEq, Nat.reduceLeDiff, Int.reduceLE, Int.reduceLT, Int.reduceToNat, cored, hff, r1, r2])
  have hown9 := hown6.ext e69 (Nat.le_refl _)
  have hownq9 := hownq6.ext e69 (Nat.le_refl _)
  obtain ⟨p, row0, hp⟩ : ∃ p row0, xs ≠ [] → (slB r = p ∧ slO r = 0 ∧ n0 ≤ p ∧ p < n1 ∧ h9.at p = some (.cells row0 65) ∧ row0.length = xs.length * 5) := by
    by_cases hx : xs = []
    · exact ⟨0, [], fun h => absurd hx h⟩
    · obtain ⟨p, row, rfl, a1, a2, a3⟩ := hown9.row hx
      obtain ⟨p', row', ev, b1, b2, b3⟩ := hown.row hx
      cases ev
      exact ⟨p, row, fun _ => ⟨rfl, rfl, a1, by have := at_lt b2; omega, a2, a3⟩⟩
  refine WB_for xs.length (fun i t h => (h.n = h9.n ∧ (∀ b, b < n0 ∨ n1 ≤ b → h.at b = h9.at b) ∧ (xs ≠ [] → ∃ row, h.at p = some (.cells row 65) ∧ row.length = xs.length * 5)) ∧ t.n = 89 ∧ t.get 0 = v ∧ t.get 3 = .ptr H.n 0 ∧ t.get 4 = .ptr (H.n + 1) 0 ∧ t.get 5 = r ∧ t.get 6 = .ptr h2.n 0 ∧ t.get 36 = .lit (.int .i64 xs.length) ∧ t.get 37 = .lit (.int .i64 i)) ?_ ?_ _ _ ?_
  · rintro i t h hlt hc ⟨⟨j1, j2, j3⟩, hn, g0, g3, g4, g5, g6, g36, g37⟩ ih
    have hx : xs ≠ [] := fun hh => by subst hh; simp at hlt
    obtain ⟨z1, z2, z3, z4, -, -⟩ := hp hx
    obtain ⟨row, hat, hrl⟩ := j3 hx
    have hw := wrap_succ hlt (by omega)
    have lat := at_lt hat
    obtain ⟨row', hput, hrl'⟩ := put_ok (l := row) (c := [.lit (.int .i64 0), .lit (.int .i64 0), .lit (.slice none 0 0), .lit (.slice none 0 0), .lit (.bool false)]) (i := i * 5) (by show i * 5 + 5 ≤ _; omega)
    have hput0 : put row (0 + i * 5) [.lit (.int .i64 0), .lit (.int .i64 0), .lit (.slice none 0 0), .lit (.slice none 0 0), .lit (.bool false)] = some row' := by rw [Nat.zero_add]; exact hput
    simp only [corem, WB_cond_s, put, ldL, WB_label, List.nil_append, List.drop_zero, List.take_zero, Nat.reduceAdd, Nat.reduceSub, Nat.reduceMul, Nat.reduceLT, Nat.reduceEqDiff, reduceCtorEq, Nat.reduceLeDiff, Int.reduceLE, Int.reduceLT, Int.reduceToNat, hn, g0, g3, g4, g5, g6, g36, g37, hlt, hc, hw, r1, r2, z1, z2, hat, lat, hput, hput0, -put]
    refine ih _ _ ⟨⟨by rw [n_put]; exact j1, fun b hb => (at_put_ne _ (by omega)).trans (j2 b hb), fun _ => ⟨row', at_put_same _ lat, by rw [hrl', hrl]⟩⟩, ?_⟩
    simp only [core, Nat.reduceAdd, Nat.reduceSub, Nat.reduceMul, Nat.reduceLT, Nat.reduceEqDiff, reduceCtorEq, Nat.reduceLeDiff, Int.reduceLE, Int.reduceLT, Int.reduceToNat, hn, g0, g3, g4, g5, g6, g36, g37]
  · rintro t h hc ⟨⟨j1, j2, -⟩, hn, g0, g3, g4, g5, g6, g36, g37⟩
    have EA : Ext H.n H h := ⟨by rw [j1]; exact E9.1, fun b hb => (j2 b (.inl (by have := E3.1; omega))).trans (E9.2 b hb)⟩
    have PA := (j2 H.n (.inl (by have := E2.1; omega))).trans ((e69.2 _ lp6).trans P6)
    have RA := (j2 (H.n + 1) (.inl (by omega))).trans ((e69.2 _ lr6).trans R6)
    have WA := (j2 h2.n (.inl (by omega))).trans ((e69.2 _ lw6).trans W6)
    have hqA := (hownq9.below (fun _ h => h) (fun b hb => j2 b (.inr hb))).toSl (F := fun _ => True) (fun _ _ => trivial) (fun _ _ => trivial)
    have lpA := at_lt PA
    have LPA := ld_at (T := tabOf Try.prog NT0) PA
    unfold pgB at LPA
    simp only [core, Nat.reduceAdd, Nat.reduceSub, Nat.reduceMul, Nat.reduceLT, Nat.reduceEqDiff, reduceCtorEq, Nat.reduceLeDiff, Int.reduceLE, Int.reduceLT, Int.reduceToNat, hn, g0, g3, g4, g5, g6, g36, g37, hc, s1, LPA, lpA]
    refine (each_x pool seed (hv.ext EA (Nat.le_refl _)) hl hok).mono ?_
    rintro _ hE ⟨rfl, eE, s, hs, hiv⟩
    rw [← hxs] at hiv
    have hfn : isFnT (tabOf Try.prog NT0) 67 = true := by kernel_rfl
    simp only [core, Nat.reduceAdd, Nat.reduceSub, Nat.reduceMul, Nat.reduceLT, Nat.reduceEqDiff, reduceCtorEq, Nat.reduceLeDiff, Int.reduceLE, Int.reduceLT, Int.reduceToNat, hn, g0, g3, g4, g5, g6, g36, g37, a_eqnilf, hfn]
    have RE := (eE.2 _ (at_lt RA)).trans RA
    have WE := (eE.2 _ (at_lt WA)).trans WA
    have hqE := hqA.ext eE (Nat.le_refl _)
    have hcapq : CapOk 5 q := by obtain ⟨L, -, -, hc, -⟩ := hqE.out; exact hc
    have lre := at_lt RE
    have lwe := at_lt WE
    have hlxs : xs.length * 72 ≤ 140737488355328 := by omega
    have hsxs : ∀ x ∈ xs, x.acting.length * 8 ≤ 140737488355328 ∧ x.boots.length * 8 ≤ 140737488355328 := fun x hx => by have := hac x hx; omega
    refine WB_indE (fun (rd : Nat) E K t h' => rd ≤ 2 ∧ E.ro = none ∧ Ext hE.n hE h' ∧ (∃ DS, KOK (H.n + 1) 4 K DS ∧ ∀ d ∈ DS, hE.n ≤ d ∧ h'.at d = some .defd) ∧ (∃ b9, hE.n ≤ b9 ∧ t.get 9 = .ptr b9 0 ∧ h'.at b9 = some (.cells [.lit (.int .i64 rd)] 3)) ∧ t.n = 89 ∧ t.get 4 = .ptr (H.n + 1) 0 ∧ t.get 6 = .ptr h2.n 0 ∧ t.get 8 = .fn (.func 87) [] [.ptr (h.n + 1) 0]) (fun rd => 2 - rd) ?_ 0 _ _ _ _ ?_
    · rintro rd E K t h' ⟨hrd, hro, e1, ⟨DS, hK, hDS⟩, ⟨b9, hb9, g9, T9⟩, hn, g4, g6, g8⟩ ih
      have lt9 := at_lt T9
      have LT9 := ld_at (T := tabOf Try.prog NT0) T9
      have W1 := (e1.2 _ lwe).trans WE
      have R1 := (e1.2 _ lre).trans RE
      by_cases h2r : rd = 2
      · have c1 : ((rd : Int) < 2) = False := by simp only [eq_iff_iff, iff_false]; omega
        simp only [core, Nat.reduceAdd, Nat.reduceSub, Nat.reduceMul, Nat.reduceLT, Nat.reduceEqDiff, reduceCtorEq, Nat.reduceLeDiff, Int.reduceLE, Int.reduceLT, Int.reduceToNat, hn, g4, g6, g8, g9, LT9, lt9, c1]
        refine lives15_x.mono ?_
        rintro _ h6 ⟨e6, rfl⟩
        have R6 := (e6.2 _ (at_lt R1)).trans R1
        have lr6 := at_lt R6
        simp only [core, Nat.reduceAdd, Nat.reduceSub, Nat.reduceMul, Nat.reduceLT, Nat.reduceEqDiff, reduceCtorEq, Nat.reduceLeDiff, Int.reduceLE, Int.reduceLT, Int.reduceToNat, hn, g4, g6, g8, R6, lr6]
        refine hK _ _ (by simp only [core, Nat.reduceAdd, Nat.reduceSub, Nat.reduceMul, Nat.reduceLT, Nat.reduceEqDiff, reduceCtorEq, Nat.reduceLeDiff, Int.reduceLE, Int.reduceLT, Int.reduceToNat, hn, g4, g6, g8]) (at_put_same _ lr6) fun d hd => (at_put_ne _ (by have := (hDS d hd).1; have := lre; omega)).trans ((e6.2 d (at_lt (hDS d hd).2)).trans (hDS d hd).2)
      · have c1 : ((rd : Int) < 2) = True := by simp only [eq_iff_iff, iff_true]; omega
        simp only [core, Nat.reduceAdd, Nat.reduceSub, Nat.reduceMul, Nat.reduceLT, Nat.reduceEqDiff, reduceCtorEq, Nat.reduceLeDiff, Int.reduceLE, Int.reduceLT, Int.reduceToNat, hn, g4, g6, g8, g9, LT9, lt9, c1]
        generalize htt : TM.set _ 54 _ = tt
        have hnt : tt.n = 89 := by rw [← htt]; simp only [core, Nat.reduceAdd, Nat.reduceSub, Nat.reduceMul, Nat.reduceLT, Nat.reduceEqDiff, reduceCtorEq, Nat.reduceLeDiff, Int.reduceLE, Int.reduceLT, Int.reduceToNat, hn, g4, g6, g8]
        have k4 : tt.get 4 = .ptr (H.n + 1) 0 := by rw [← htt]; simp only [core, Nat.reduceAdd, Nat.reduceSub, Nat.reduceMul, Nat.reduceLT, Nat.reduceEqDiff, reduceCtorEq, Nat.reduceLeDiff, Int.reduceLE, Int.reduceLT, Int.reduceToNat, hn, g4, g6, g8]
        have k6 : tt.get 6 = .ptr h2.n 0 := by rw [← htt]; simp only [core, Nat.reduceAdd, Nat.reduceSub, Nat.reduceMul, Nat.reduceLT, Nat.reduceEqDiff, reduceCtorEq, Nat.reduceLeDiff, Int.reduceLE, Int.reduceLT, Int.reduceToNat, hn, g4, g6, g8]
        have k8 : tt.get 8 = .fn (.func 87) [] [.ptr (h.n + 1) 0] := by rw [← htt]; simp only [core, Nat.reduceAdd, Nat.reduceSub, Nat.reduceMul, Nat.reduceLT, Nat.reduceEqDiff, reduceCtorEq, Nat.reduceLeDiff, Int.reduceLE, Int.reduceLT, Int.reduceToNat, hn, g4, g6, g8]
        have k9 : tt.get 9 = .ptr b9 0 := by rw [← htt]; simp only [core, Nat.reduceAdd, Nat.reduceSub, Nat.reduceMul, Nat.reduceLT, Nat.reduceEqDiff, reduceCtorEq, Nat.reduceLeDiff, Int.reduceLE, Int.reduceLT, Int.reduceToNat, hn, g4, g6, g8, g9]
        have k10 : tt.get 10 = .ptr h'.n 0 := by rw [← htt]; simp only [core, Nat.reduceAdd, Nat.reduceSub, Nat.reduceMul, Nat.reduceLT, Nat.reduceEqDiff, reduceCtorEq, Nat.reduceLeDiff, Int.reduceLE, Int.reduceLT, Int.reduceToNat, hn, g4, g6, g8]
        have k54 : tt.get 54 = .fn (.func 87) [] [.ptr (h.n + 1) 0] := by rw [← htt]; simp only [core, Nat.reduceAdd, Nat.reduceSub, Nat.reduceMul, Nat.reduceLT, Nat.reduceEqDiff, reduceCtorEq, Nat.reduceLeDiff, Int.reduceLE, Int.reduceLT, Int.reduceToNat, hn, g4, g6, g8]
        clear htt
        obtain ⟨h6, hh6⟩ : ∃ h6, h6 = h'.push (.cells [.lit (.int .i64 0)] 3) := ⟨_, rfl⟩
        have e6 : Ext h'.n h' h6 := hh6 ▸ (Ext.refl _ _).push _ (Nat.le_refl _)
        have T10 : h6.at h'.n = some (.cells [.lit (.int .i64 0)] 3) := hh6 ▸ at_push_n _ _
        have n6 : h6.n = h'.n + 1 := by rw [hh6, n_push]
        rw [← hh6]
        clear hh6
        have hnE := e1.1
        refine WB_rangeW hro (fv := .fn (.func 87) [] [.ptr (h.n + 1) 0]) (by simp only [core, Nat.reduceAdd, Nat.reduceSub, Nat.reduceMul, Nat.reduceLT, Nat.reduceEqDiff, reduceCtorEq, Nat.reduceLeDiff, Int.reduceLE, Int.reduceLT, Int.reduceToNat, k54]) rfl fun LO hLO => ?_
        obtain ⟨LD, hLD⟩ : ∃ LD : ALoop, LD = { busyL LO with state := .done, pending := some (.exit 4) } := ⟨_, rfl⟩
        refine (each1_x (l := h6.n + 1) hs hiv hlxs hsxs
          (fun i u => (Ext hE.n hE u ∧ u.at b9 = some (.cells [.lit (.int .i64 rd)] 3) ∧ u.at h'.n = some (.cells [.lit (.int .i64 i)] 3) ∧ u.at (h'.n + 2) = some (.loop LO) ∧ u.at (h'.n + 1) = some .defd ∧ (∀ d ∈ DS, u.at d = some .defd)) ∧ (rd = 0 → i = 0))
          (fun u => (Ext hE.n hE u ∧ u.at b9 = some (.cells [.lit (.int .i64 rd)] 3) ∧ u.at h'.n = some (.cells [.lit (.int .i64 1)] 3) ∧ u.at (h'.n + 2) = some (.loop LD) ∧ u.at (h'.n + 1) = some .defd ∧ (∀ d ∈ DS, u.at d = some .defd)) ∧ rd = 0)
          (fun i u j => j.1.1) (fun i u u' ⟨⟨j1, j2, j3, j4, j5, j6⟩, j7⟩ e => ⟨⟨j1.step e, (e.2 _ (at_lt j2)).trans j2, (e.2 _ (at_lt j3)).trans j3, (e.2 _ (at_lt j4)).trans j4, (e.2 _ (at_lt j5)).trans j5, fun d hd => (e.2 _ (at_lt (j6 d hd))).trans (j6 d hd)⟩, j7⟩) ?_ ?_).mono ?_
        · rintro i x u0 u va vb hx ⟨⟨j1, j2, j3, j4, j5, j6⟩, j7⟩ e0 ha hbb f1 f2
          have a1 := ha.one
          have b1 := hbb.one
          have a2 := ha.isSl
          have b2 := hbb.isSl
          have hlt : i < xs.length := (List.getElem?_eq_some_iff.1 hx).1
          have l4 := (e0.2 _ (at_lt j4)).trans j4
          rw [n6]
          refine WR_round hLO l4 rfl ?_
          simp only [core, Nat.reduceAdd, Nat.reduceSub, Nat.reduceMul, Nat.reduceLT, Nat.reduceEqDiff, reduceCtorEq, Nat.reduceLeDiff, Int.reduceLE, Int.reduceLT, Int.reduceToNat, sp_cons, sp_nil, ivV, hnt, a1, b1]
          obtain ⟨u1, hu1⟩ : ∃ u1, u1 = u.push (.cells [.lit (.int .i64 x.first), .lit (.int .i64 x.last), va, vb, .lit (.bool x.mayRw)] 65) := ⟨_, rfl⟩
          have e1' : Ext u.n u u1 := hu1 ▸ (Ext.refl _ _).push _ (Nat.le_refl _)
          have X1 : u1.at u.n = some (.cells [.lit (.int .i64 x.first), .lit (.int .i64 x.last), va, vb, .lit (.bool x.mayRw)] 65) := hu1 ▸ at_push_n _ _
          rw [← hu1]
          clear hu1
          have ee := e0.step e1'
          have l4' := (e1'.2 _ (at_lt l4)).trans l4
          refine WB_beginL hLO rfl l4' ?_
          have hnu := at_lt j4
          have hne0 := e0.1
          obtain ⟨u2, hu2⟩ : ∃ u2, u2 = u1.put (h'.n + 2) (.loop (busyL LO)) := ⟨_, rfl⟩
          have qu : ∀ b, b ≠ h'.n + 2 → u2.at b = u1.at b := fun b hb => hu2 ▸ at_put_ne _ (fun h => hb h.symm)
          have nu : u2.n = u1.n := by rw [hu2, n_put]
          have EU : Ext hE.n hE u2 := hu2 ▸ (j1.step ee).put _ (by omega)
          have U4 : u2.at (h'.n + 2) = some (.loop (busyL LO)) := hu2 ▸ at_put_same _ (at_lt l4')
          rw [← hu2]
          clear hu2
          have U2 := (qu b9 (by omega)).trans ((ee.2 _ (at_lt j2)).trans j2)
          have U3 := (qu h'.n (by omega)).trans ((ee.2 _ (at_lt j3)).trans j3)
          have U5 := (qu (h'.n + 1) (by omega)).trans ((ee.2 _ (at_lt j5)).trans j5)
          have U6 : ∀ d ∈ DS, u2.at d = some .defd := fun d hd => (qu d (by have := at_lt (hDS d hd).2; omega)).trans ((ee.2 _ (at_lt (j6 d hd))).trans (j6 d hd))
          have UX := (qu u.n (by omega)).trans X1
          have UW := (EU.2 _ lwe).trans WE
          have ln2 := at_lt U2
          have ln3 := at_lt U3
          have lnX := at_lt UX
          have lnW := at_lt UW
          have LU3 := ld_at (T := tabOf Try.prog NT0) U3
          have LUX := ld_at (T := tabOf Try.prog NT0) UX
          have LUW := ld_at (T := tabOf Try.prog NT0) UW
          have hge : ((xs.length : Int) ≤ (i : Int)) = False := by simp only [eq_iff_iff, iff_false]; omega
          have hw := wrap_succ hlt (by omega)
          have hq3 : i ≤ i + 1 := by omega
          have hq4 : i + 1 ≤ xs.length := by omega
          have hq5 : ((i : Nat) : Int) ≤ ((i + 1 : Nat) : Int) := by omega
          have hq6 : ((i + 1 : Nat) : Int) ≤ (xs.length : Int) := by omega
          have hsub : IsSl RIv (fun _ => True) hE (subSl 5 i (i + 1) q) [x] := by
            have := hqE.sub (l := i) (r := i + 1) (by omega) hq4
            rw [List.take_add_one, hx, List.drop_append_of_le_length (by rw [List.length_take]; omega), List.drop_of_length_le (by rw [List.length_take]; omega)] at this
            exact this
          have u1s := hsub.isSl
          simp only [core, Nat.reduceAdd, Nat.reduceSub, Nat.reduceMul, Nat.reduceLT, Nat.reduceEqDiff, reduceCtorEq, Nat.reduceLeDiff, Int.reduceLE, Int.reduceLT, Int.reduceToNat]
          rw [WB_regionD [0, 1, 2, 3, 4, 5, 6, 7, 8, 9, 10, 11, 12, 13, 14] 26958712494791495492132986314775793126884259807906986834779074199552 (by kernel_rfl)]
          repeat ((with_reducible refine WDM_cons ?_; simp only [dw1]; try simp only [dw2, Nat.reduceAdd, Nat.reduceMul, Nat.reduceShiftRight, Nat.reduceMod, Nat.reduceEqDiff]); simp only [core, Nat.reduceAdd, Nat.reduceSub, Nat.reduceMul, Nat.reduceLT, Nat.reduceEqDiff, reduceCtorEq, Nat.reduceLeDiff, Int.reduceLE, Int.reduceLT, Int.reduceToNat, cored, hnt, k4, k6, k9, k10, LU3, ln3, LUX, lnX, LUW, lnW, q1, q2, a1, b1, a2, b2, hge, hw, hcapq, hq3, hq4, hq5, hq6, u1s])
          obtain ⟨u3, hu3⟩ : ∃ u3, u3 = u2.push (.cells [.lit (.int .i64 x.first), .lit (.int .i64 x.last), va, vb, .lit (.bool x.mayRw)] 65) := ⟨_, rfl⟩
          have e3' : Ext u2.n u2 u3 := hu3 ▸ (Ext.refl _ _).push _ (Nat.le_refl _)
          have X3 : u3.at u2.n = some (.cells [.lit (.int .i64 x.first), .lit (.int .i64 x.last), va, vb, .lit (.bool x.mayRw)] 65) := hu3 ▸ at_push_n _ _
          rw [← hu3]
          clear hu3
          have he1 := e1'.1
          have ha3 : IsSl RInt (fun _ => True) u3 va x.acting := ha.lift fun b hb hlt => ⟨(e3'.2 b (by omega)).trans ((qu b (by omega)).trans (e1'.2 b hlt)), trivial⟩
          have hb3 : IsSl RInt (fun _ => True) u3 vb x.boots := hbb.lift fun b hb hlt => ⟨(e3'.2 b (by omega)).trans ((qu b (by omega)).trans (e1'.2 b hlt)), trivial⟩
          have hone : IsSl RIv (fun _ => True) u3 (.sl u2.n 0 1 (.kn 1)) [x] := IsSl.ofAt (L := [[.lit (.int .i64 x.first), .lit (.int .i64 x.last), va, vb, .lit (.bool x.mayRw)]]) X3 trivial (Els.nil.snoc (RIv_is.2 ⟨va, vb, rfl, ha3, hb3, f1, f2⟩)) rfl
          have EU3 := EU.step e3'
          refine (same15_x hone (hsub.ext EU3 (Nat.le_refl _)) (by show 1 < 2 ^ 62; decide) (fun z hz => by
            rw [List.mem_singleton] at hz; subst hz; have := hac z (List.mem_of_getElem? hx); omega)).mono ?_
          rintro _ u4 ⟨e4', rfl⟩
          have heq : eqIvs [x] [x] = true := eqIvs_iff.2 rfl
          rw [heq]
          have eu4 := e3'.step e4'
          have EU4 := EU3.step e4'
          have V2 := (eu4.2 _ ln2).trans U2
          have V3 := (eu4.2 _ ln3).trans U3
          have V4 := (eu4.2 _ (at_lt U4)).trans U4
          have V5 := (eu4.2 _ (at_lt U5)).trans U5
          have V6 : ∀ d ∈ DS, u4.at d = some .defd := fun d hd => (eu4.2 d (at_lt (U6 d hd))).trans (U6 d hd)
          have lv2 := at_lt V2
          have lv3 := at_lt V3
          have LV2 := ld_at (T := tabOf Try.prog NT0) V2
          have LV3 := ld_at (T := tabOf Try.prog NT0) V3
          have hb9n : b9 ≠ h'.n := by omega
          have hb9n' : h'.n ≠ b9 := by omega
          repeat ((with_reducible refine WDM_cons ?_; simp only [dw1]; try simp only [dw2, Nat.reduceAdd, Nat.reduceMul, Nat.reduceShiftRight, Nat.reduceMod, Nat.reduceEqDiff]); simp only [core, Nat.reduceAdd, Nat.reduceSub, Nat.reduceMul, Nat.reduceLT, Nat.reduceEqDiff, reduceCtorEq, Nat.reduceLeDiff, Int.reduceLE, Int.reduceLT, Int.reduceToNat, cored, hnt, k9, k10, LV2, LV3, V3, lv2, lv3, hw, hb9n, hb9n'])
          by_cases hr0 : rd = 0
          · have hi0 := j7 hr0
            have k1 : ((rd : Int) == 0) = true := by rw [hr0]; rfl
            have k2 : (((i + 1 : Nat) : Int) == 1) = true := by rw [hi0]; rfl
            simp only [core, Nat.reduceAdd, Nat.reduceSub, Nat.reduceMul, Nat.reduceLT, Nat.reduceEqDiff, reduceCtorEq, Nat.reduceLeDiff, Int.reduceLE, Int.reduceLT, Int.reduceToNat, hnt, k9, k10, LV2, LV3, V3, lv2, lv3, hb9n, hb9n', k1, k2]
            refine ⟨busyL LO, (at_put_ne _ (by omega)).trans V4, false, rfl, (fun h => by cases h), fun _ => ⟨⟨(EU4.put _ (by omega)).put _ (by omega), ?_, ?_, ?_, ?_, fun d hd => ?_⟩, hr0⟩⟩
            · exact (at_put_ne _ (by omega)).trans ((at_put_ne _ (by omega)).trans V2)
            · rw [show ((1 : Int)) = ((i + 1 : Nat) : Int) by rw [hi0]; rfl]
              exact (at_put_ne _ (by omega)).trans (at_put_same _ lv3)
            · refine (at_put_same _ (by rw [n_put]; exact at_lt V4)).trans ?_
              rw [hLD]
              rfl
            · exact (at_put_ne _ (by omega)).trans ((at_put_ne _ (by omega)).trans V5)
            · have := at_lt (hDS d hd).2
              exact (at_put_ne _ (by omega)).trans ((at_put_ne _ (by omega)).trans (V6 d hd))
          · have k1 : ((rd : Int) == 0) = false := by rw [beq_eq_false_iff_ne]; omega
            simp only [core, Nat.reduceAdd, Nat.reduceSub, Nat.reduceMul, Nat.reduceLT, Nat.reduceEqDiff, reduceCtorEq, Nat.reduceLeDiff, Int.reduceLE, Int.reduceLT, Int.reduceToNat, hnt, k9, k10, LV2, LV3, V3, lv2, lv3, hb9n, hb9n', k1, aundef]
            refine ⟨busyL LO, (at_put_ne _ (by omega)).trans V4, true, rfl, fun _ => ⟨⟨(EU4.put _ (by omega)).put _ (by omega), ?_, ?_, ?_, ?_, fun d hd => ?_⟩, fun h => absurd h hr0⟩, (fun h => by cases h)⟩
            · exact (at_put_ne _ (by omega)).trans ((at_put_ne _ (by omega)).trans V2)
            · exact (at_put_ne _ (by omega)).trans (at_put_same _ lv3)
            · refine (at_put_same _ (by rw [n_put]; exact at_lt V4)).trans ?_
              rw [hLO]
              rfl
            · exact (at_put_ne _ (by omega)).trans ((at_put_ne _ (by omega)).trans V5)
            · have := at_lt (hDS d hd).2
              exact (at_put_ne _ (by omega)).trans ((at_put_ne _ (by omega)).trans (V6 d hd))
        · have up : ∀ b x, h6.at b = some x → ((h6.push .defd).push (.loop LO)).at b = some x := fun b x hx => by
            have := at_lt hx
            exact (at_push_lt _ (by rw [n_push]; omega)).trans ((at_push_lt _ this).trans hx)
          have EE := e1.step e6
          refine ⟨⟨(EE.push _ EE.1).push _ (by rw [n_push]; have := EE.1; omega), up _ _ ((e6.2 _ lt9).trans T9), up _ _ T10, ?_, ?_, fun d hd => up _ _ ((e6.2 _ (at_lt (hDS d hd).2)).trans (hDS d hd).2)⟩, fun _ => rfl⟩
          · have := at_push_n (h6.push .defd) (.loop LO)
            rw [n_push, n6] at this
            exact this
          · have := at_push_n h6 .defd
            rw [n6] at this
            exact (at_push_lt _ (by rw [n_push]; omega)).trans this
        · rintro _ u (⟨⟨j1, j2, j3, j4, j5, j6⟩, j7⟩ | ⟨⟨j1, j2, j3, j4, j5, j6⟩, j7⟩)
          · refine ⟨LO, by rw [n6]; exact j4, by rw [hLO]; simp, ?_⟩
            obtain ⟨ub, hub⟩ : ∃ ub, ub = u.put (h6.n + 1) (.loop { LO with state := .exhausted }) := ⟨_, rfl⟩
            have EUB : Ext hE.n hE ub := hub ▸ j1.put _ (by omega)
            have b2 : ub.at b9 = some (.cells [.lit (.int .i64 rd)] 3) := hub ▸ (at_put_ne _ (by omega)).trans j2
            have b3 : ub.at h'.n = some (.cells [.lit (.int .i64 xs.length)] 3) := hub ▸ (at_put_ne _ (by omega)).trans j3
            have b5 : ub.at h6.n = some .defd := hub ▸ (at_put_ne _ (by omega)).trans (by rw [n6]; exact j5)
            have b6 : ∀ d ∈ DS, ub.at d = some .defd := fun d hd => hub ▸ (at_put_ne _ (by have := at_lt (hDS d hd).2; omega)).trans (j6 d hd)
            rw [← hub]
            clear hub
            have lb2 := at_lt b2
            have lb3 := at_lt b3
            have LB2 := ld_at (T := tabOf Try.prog NT0) b2
            have LB3 := ld_at (T := tabOf Try.prog NT0) b3
            have UW := (EUB.2 _ lwe).trans WE
            have lnW := at_lt UW
            have LUW := ld_at (T := tabOf Try.prog NT0) UW
            have k3 : ((xs.length : Int) != (xs.length : Int)) = false := bne_self_eq_false _
            rw [hLO]
            have hup : ∀ b x, ub.at b = some x → (ub.push (.cells [.lit (.int .i64 ((rd + 1 : Nat) : Int))] 3)).at b = some x := fun b x hx => (at_push_lt _ (at_lt hx)).trans hx
            have hnub := EUB.1
            have hds : ∀ d ∈ DS, d < h'.n := fun d hd => at_lt (hDS d hd).2
            have goK := hK.cons (d := h6.n) (fun hd => by have := hds _ hd; omega) (by omega)
            have goD : ∀ d ∈ h6.n :: DS, hE.n ≤ d ∧ (ub.push (.cells [.lit (.int .i64 ((rd + 1 : Nat) : Int))] 3)).at d = some .defd := fun d hd => by
              rcases List.mem_cons.1 hd with rfl | hd
              · exact ⟨by omega, hup _ _ b5⟩
              · exact ⟨(hDS d hd).1, hup _ _ (b6 d hd)⟩
            have hwr : IntKind.i64.wrap ((rd : Int) + 1) = ((rd + 1 : Nat) : Int) := (wrap_in (by omega) (by omega)).trans (by omega)
            by_cases hr0 : rd = 0
            · have k1 : ((rd : Int) == 1) = false := by rw [hr0]; rfl
              simp only [core, Nat.reduceAdd, Nat.reduceSub, Nat.reduceMul, Nat.reduceLT, Nat.reduceEqDiff, reduceCtorEq, Nat.reduceLeDiff, Int.reduceLE, Int.reduceLT, Int.reduceToNat, Option.map_none, Option.toList_none, List.nil_append, hnt, k4, k6, k8, k9, k10, b2, b3, lb2, lb3, LB2, LB3, LUW, lnW, q1, q2, k1, k3, hwr, aundef]
              refine ih (rd + 1) _ _ _ _ ⟨by omega, hro, EUB.push _ EUB.1, ⟨h6.n :: DS, goK, goD⟩, ⟨ub.n, EUB.1, by simp only [core, Nat.reduceAdd, Nat.reduceSub, Nat.reduceMul, Nat.reduceLT, Nat.reduceEqDiff, reduceCtorEq, Nat.reduceLeDiff, Int.reduceLE, Int.reduceLT, Int.reduceToNat, hnt], at_push_n _ _⟩, by simp only [core, Nat.reduceAdd, Nat.reduceSub, Nat.reduceMul, Nat.reduceLT, Nat.reduceEqDiff, reduceCtorEq, Nat.reduceLeDiff, Int.reduceLE, Int.reduceLT, Int.reduceToNat, hnt, k4, k6, k8]⟩ (by omega)
            · have k1 : ((rd : Int) == 1) = true := by rw [show rd = 1 by omega]; rfl
              simp only [core, Nat.reduceAdd, Nat.reduceSub, Nat.reduceMul, Nat.reduceLT, Nat.reduceEqDiff, reduceCtorEq, Nat.reduceLeDiff, Int.reduceLE, Int.reduceLT, Int.reduceToNat, Option.map_none, Option.toList_none, List.nil_append, hnt, k4, k6, k8, k9, k10, b2, b3, lb2, lb3, LB2, LB3, LUW, lnW, q1, q2, k1, k3, hwr, aundef]
              refine ih (rd + 1) _ _ _ _ ⟨by omega, hro, EUB.push _ EUB.1, ⟨h6.n :: DS, goK, goD⟩, ⟨ub.n, EUB.1, by simp only [core, Nat.reduceAdd, Nat.reduceSub, Nat.reduceMul, Nat.reduceLT, Nat.reduceEqDiff, reduceCtorEq, Nat.reduceLeDiff, Int.reduceLE, Int.reduceLT, Int.reduceToNat, hnt], at_push_n _ _⟩, by simp only [core, Nat.reduceAdd, Nat.reduceSub, Nat.reduceMul, Nat.reduceLT, Nat.reduceEqDiff, reduceCtorEq, Nat.reduceLeDiff, Int.reduceLE, Int.reduceLT, Int.reduceToNat, hnt, k4, k6, k8]⟩ (by omega)
          · refine ⟨LD, by rw [n6]; exact j4, by rw [hLD]; simp, ?_⟩
            obtain ⟨ub, hub⟩ : ∃ ub, ub = u.put (h6.n + 1) (.loop { LD with state := .exhausted }) := ⟨_, rfl⟩
            have EUB : Ext hE.n hE ub := hub ▸ j1.put _ (by omega)
            have b2 : ub.at b9 = some (.cells [.lit (.int .i64 rd)] 3) := hub ▸ (at_put_ne _ (by omega)).trans j2
            have b3 : ub.at h'.n = some (.cells [.lit (.int .i64 1)] 3) := hub ▸ (at_put_ne _ (by omega)).trans j3
            have b5 : ub.at h6.n = some .defd := hub ▸ (at_put_ne _ (by omega)).trans (by rw [n6]; exact j5)
            have b6 : ∀ d ∈ DS, ub.at d = some .defd := fun d hd => hub ▸ (at_put_ne _ (by have := at_lt (hDS d hd).2; omega)).trans (j6 d hd)
            rw [← hub]
            clear hub
            have lb2 := at_lt b2
            have lb3 := at_lt b3
            have LB2 := ld_at (T := tabOf Try.prog NT0) b2
            have LB3 := ld_at (T := tabOf Try.prog NT0) b3
            rw [hLD]
            have hup : ∀ b x, ub.at b = some x → (ub.push (.cells [.lit (.int .i64 ((rd + 1 : Nat) : Int))] 3)).at b = some x := fun b x hx => (at_push_lt _ (at_lt hx)).trans hx
            have hnub := EUB.1
            have hds : ∀ d ∈ DS, d < h'.n := fun d hd => at_lt (hDS d hd).2
            have goK := hK.cons (d := h6.n) (fun hd => by have := hds _ hd; omega) (by omega)
            have goD : ∀ d ∈ h6.n :: DS, hE.n ≤ d ∧ (ub.push (.cells [.lit (.int .i64 ((rd + 1 : Nat) : Int))] 3)).at d = some .defd := fun d hd => by
              rcases List.mem_cons.1 hd with rfl | hd
              · exact ⟨by omega, hup _ _ b5⟩
              · exact ⟨(hDS d hd).1, hup _ _ (b6 d hd)⟩
            have hwr : IntKind.i64.wrap ((rd : Int) + 1) = ((rd + 1 : Nat) : Int) := (wrap_in (by omega) (by omega)).trans (by omega)
            have k1 : ((rd : Int) == 1) = false := by rw [j7]; rfl
            simp only [core, Nat.reduceAdd, Nat.reduceSub, Nat.reduceMul, Nat.reduceLT, Nat.reduceEqDiff, reduceCtorEq, Nat.reduceLeDiff, Int.reduceLE, Int.reduceLT, Int.reduceToNat, Option.map_some, Option.toList_some, List.cons_append, List.nil_append, hnt, k4, k6, k8, k9, k10, b2, b3, lb2, lb3, LB2, LB3, q1, q2, k1, hwr, aundef]
            refine ih (rd + 1) _ _ _ _ ⟨by omega, hro, EUB.push _ EUB.1, ⟨h6.n :: DS, goK, goD⟩, ⟨ub.n, EUB.1, by simp only [core, Nat.reduceAdd, Nat.reduceSub, Nat.reduceMul, Nat.reduceLT, Nat.reduceEqDiff, reduceCtorEq, Nat.reduceLeDiff, Int.reduceLE, Int.reduceLT, Int.reduceToNat, hnt], at_push_n _ _⟩, by simp only [core, Nat.reduceAdd, Nat.reduceSub, Nat.reduceMul, Nat.reduceLT, Nat.reduceEqDiff, reduceCtorEq, Nat.reduceLeDiff, Int.reduceLE, Int.reduceLT, Int.reduceToNat, hnt, k4, k6, k8]⟩ (by omega)
    · refine ⟨by omega, rfl, (Ext.refl _ _).push _ (Nat.le_refl _), ⟨[], ?_, fun d hd => by cases hd⟩, ⟨hE.n, Nat.le_refl _, by simp only [core, Nat.reduceAdd, Nat.reduceSub, Nat.reduceMul, Nat.reduceLT, Nat.reduceEqDiff, reduceCtorEq, Nat.reduceLeDiff, Int.reduceLE, Int.reduceLT, Int.reduceToNat, hn, g0, g3, g4, g5, g6, g36, g37], at_push_n _ _⟩, by simp only [core, Nat.reduceAdd, Nat.reduceSub, Nat.reduceMul, Nat.reduceLT, Nat.reduceEqDiff, reduceCtorEq, Nat.reduceLeDiff, Int.reduceLE, Int.reduceLT, Int.reduceToNat, hn, g0, g3, g4, g5, g6, g36, g37]⟩
      intro t' h' a1 a2 _
      have L := ld_at (T := tabOf Try.prog NT0) a2
      refine ⟨.inr rfl, [.lit (.bool true)], ?_, rfl⟩
      simp only [core, Nat.reduceAdd, Nat.reduceSub, Nat.reduceMul, Nat.reduceLT, Nat.reduceEqDiff, reduceCtorEq, Nat.reduceLeDiff, Int.reduceLE, Int.reduceLT, Int.reduceToNat, a1, L]
  · simp only [core, Nat.reduceAdd, Nat.reduceSub, Nat.reduceMul, Nat.reduceLT, Nat.reduceEqDiff, reduceCtorEq, Nat.reduceLeDiff, Int.reduceLE, Int.reduceLT, Int.reduceToNat]
    refine ⟨⟨fun _ _ => trivial, fun hx => ?_⟩, ?_⟩
    · obtain ⟨-, -, -, -, a5, a6⟩ := hp hx
      exact ⟨row0, a5, a6⟩
    · (repeat' apply And.intro) <;> first | rfl | trivial
end Go.Proofs.Ytkgbeihcepociaa.Ex
namespace Go.Proofs.Ytkgbeihcepociaa
open Go.RowKit Go.ChangeShapes Go.WideShapes Go.ChangeAt
set_option maxRecDepth 100000 in
theorem intervalAll_walk {H : Type} {enc : TypeId × Value → H} {W : World} {base : Nat} {v0 v1 : Value} {d0 d1 : DataW H} {p0 p1 : List MemPlace}
    (k0 : Value.okWide Try.prog W .any base 33 v0) (h0 : DataW.Trod enc Try.prog W 0 (fun _ => true) true 33 v0 d0 p0)
    (k1 : Value.okWide Try.prog W .any base 56 v1) (h1 : DataW.Trod enc Try.prog W 0 (fun _ => true) true 56 v1 d1 p1)
    {ts : List TypeId} {ds : List (DataW H)} (hsz : (DataW.weightsEach Try.prog ([33, 56] ++ ts) ([d0, d1] ++ ds)).all (· ≤ reachBytes) = true) :
    Calls Try.prog 7 #[v0, v1] W fun e w' => e = .returned (.bool true) ∧ Below W.heap.size W w' := by
  obtain ⟨v, ms, r0, i0, ok0⟩ := Ex.open_sl Ex.opensA_Mps Try.underlying33 k0 h0 (weights_le hsz (j := 0) rfl rfl)
  obtain ⟨c1, g, r1, i1, -⟩ := Ex.open_agg Ex.opensA_Pg Try.underlying56 rfl k1 h1 (weights_le hsz (j := 1) rfl rfl)
  obtain ⟨rfl, -⟩ := Ex.RPg_is.1 i1
  exact Ex.law_join (Ex.rels_cons r0 (Ex.rels_cons r1 Ex.rels_nil)) (Ex.intervalAll_m g.pool g.seed i0 (fun b hb => hb) ok0.1 ok0.2)
end Go.Proofs.Ytkgbeihcepociaa
end
