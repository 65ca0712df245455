/- Part 12 of the proof: Act, Bts, Pga, Eq, Stb, Osr, Abs, Open, Opa, Opb, Psm, Jn, PlaceApartWalk. -/
import Derived.Laws.StructEq
import Derived.Test.YtkgbeihcepociaaRows
import Derived.ProofKit
import Derived.OpenShut
import Derived.ShutString
import Derived.ChangeOld
import Derived.SizedLaws
import Derived.Test.YtkgbeihcepociaaM11
section

set_option linter.unusedSimpArgs false
set_option linter.unusedVariables false
set_option maxRecDepth 10000
set_option maxHeartbeats 4000000
namespace Go.Proofs.Ytkgbeihcepociaa.Ex
open Go
def hashPg (pool seed : Int) : Int := hash2F (IntKind.u32.wrap seed) (IntKind.u32.wrap pool)
def actF (m : MapD) (pool seed : Int) : List Int := match poolF m pool with
  | none => []
  | some p => if seed < 0 ∨ p.pgs ≤ seed ∨ 8 ≤ seed then [] else selectF m (hashPg pool seed) p.size
def pgV (pool seed : Int) : AV := .agg [.lit (.int .i64 pool), .lit (.int .i64 seed)]
theorem actF_able {m : MapD} {pool seed : Int} : ∀ o ∈ actF m pool seed, ableF m o = true := by
  unfold actF
  split
  · exact fun o ho => by cases ho
  · split
    · exact fun o ho => by cases ho
    · exact selectF_able
theorem actF_len {m : MapD} {pool seed : Int} : (actF m pool seed).length ≤ 8 := by
  unfold actF
  split
  · exact Nat.zero_le _
  · split
    · exact Nat.zero_le _
    · exact selectF_len
theorem actR_x {F : Nat → Prop} {H : AH} {m : MapD} {vo vp vb : AV} (pool seed : Int) (hm : MpAt F H m vo vp vb) (hok : OkM m) (hlo : Sm 40 m.osds) (hpo : Sm 32 m.pools) :
    WC Try.prog (tabOf Try.prog NT0) S0 50 [mpV m vo vp vb, pgV pool seed] H fun v h' => Ext H.n H h' ∧ IsSl RInt (fun b => H.n ≤ b) h' v (actF m pool seed) := by
  refine WC_fn Try.func50 rfl rfl ?_
  have o1 := hm.o.one
  have o2 := hm.p.one
  have o3 := hm.b.one
  have i1 := hm.o.isSl
  have i2 := hm.p.isSl
  have i3 := hm.b.isSl
  simp only [core, Nat.reduceAdd, Nat.reduceSub, Nat.reduceMul, Nat.reduceLT, Nat.reduceEqDiff, reduceCtorEq, Nat.reduceLeDiff, Int.reduceLE, Int.reduceLT, Int.reduceToNat, Try.ntmps50, mpV, pgV, o1, o2, o3]
  obtain ⟨h1, hh1⟩ : ∃ h1, h1 = (H.push (.cells [.lit (.int .i64 m.epoch), vo, vp, vb, .lit (.int .i64 m.leaf)] 31)).push (.cells [.lit (.int .i64 pool), .lit (.int .i64 seed)] 56) := ⟨_, rfl⟩
  have E1 : Ext H.n H h1 := hh1 ▸ ((Ext.refl _ _).push _ (Nat.le_refl _)).push _ (by rw [n_push]; omega)
  have A1 : h1.at H.n = some (.cells [.lit (.int .i64 m.epoch), vo, vp, vb, .lit (.int .i64 m.leaf)] 31) := hh1 ▸ (at_push_lt _ (by rw [n_push]; omega)).trans (at_push_n _ _)
  have B1 : h1.at (H.n + 1) = some (.cells [.lit (.int .i64 pool), .lit (.int .i64 seed)] 56) := hh1 ▸ at_push_n _ _
  have la1 := at_lt A1
  have lb1 := at_lt B1
  have LA1 := ld_at (T := tabOf Try.prog NT0) A1
  have LB1 := ld_at (T := tabOf Try.prog NT0) B1
  rw [← hh1]
  clear hh1
  refine (poolR_x pool (hm.ext E1 (Nat.le_refl _)) hpo).mono ?_
  rintro _ h2 ⟨e2, rfl⟩
  have E2 := E1.step e2
  have A2 := (e2.2 _ la1).trans A1
  have B2 := (e2.2 _ lb1).trans B1
  simp only [core, Nat.reduceAdd, Nat.reduceSub, Nat.reduceMul, Nat.reduceLT, Nat.reduceEqDiff, reduceCtorEq, Nat.reduceLeDiff, Int.reduceLE, Int.reduceLT, Int.reduceToNat, poolV]
  obtain ⟨h3, hh3⟩ : ∃ h3, h3 = h2.push (.cells [.lit (.int .i64 (poolG m pool).id), .lit (.int .i64 (poolG m pool).size), .lit (.int .i64 (poolG m pool).min), .lit (.int .i64 (poolG m pool).pgs)] 94) := ⟨_, rfl⟩
  have e3 : Ext h2.n h2 h3 := hh3 ▸ (Ext.refl _ _).push _ (Nat.le_refl _)
  have C3 : h3.at h2.n = some (.cells [.lit (.int .i64 (poolG m pool).id), .lit (.int .i64 (poolG m pool).size), .lit (.int .i64 (poolG m pool).min), .lit (.int .i64 (poolG m pool).pgs)] 94) := hh3 ▸ at_push_n _ _
  have E3 := E2.step e3
  have A3 := (e3.2 _ (at_lt A2)).trans A2
  have B3 := (e3.2 _ (at_lt B2)).trans B2
  have la3 := at_lt A3
  have lb3 := at_lt B3
  have lc3 := at_lt C3
  have LA3 := ld_at (T := tabOf Try.prog NT0) A3
  have LB3 := ld_at (T := tabOf Try.prog NT0) B3
  have LC3 := ld_at (T := tabOf Try.prog NT0) C3
  rw [← hh3]
  clear hh3
  by_cases hq : poolF m pool = none
  · simp only [core, Nat.reduceAdd, Nat.reduceSub, Nat.reduceMul, Nat.reduceLT, Nat.reduceEqDiff, reduceCtorEq, Nat.reduceLeDiff, Int.reduceLE, Int.reduceLT, Int.reduceToNat, hq, Option.isSome_none]
    refine ⟨E3, ?_⟩
    unfold actF
    rw [hq]
    exact IsSl.nil
  obtain ⟨pl, hq⟩ := Option.ne_none_iff_exists'.1 hq
  have hG : poolG m pool = pl := by unfold poolG; rw [hq]; rfl
  rw [hG] at LC3
  have hbad : (seed < 0 ∨ pl.pgs ≤ seed ∨ 8 ≤ seed) → ∀ h', Ext H.n H h' → Ext H.n H h' ∧ IsSl RInt (fun b => H.n ≤ b) h' (.lit (.slice none 0 0)) (actF m pool seed) := fun hc h' e => by
    refine ⟨e, ?_⟩
    unfold actF
    rw [hq]
    simp only [if_pos hc]
    exact IsSl.nil
  by_cases c1 : seed < 0
  · simp only [core, Nat.reduceAdd, Nat.reduceSub, Nat.reduceMul, Nat.reduceLT, Nat.reduceEqDiff, reduceCtorEq, Nat.reduceLeDiff, Int.reduceLE, Int.reduceLT, Int.reduceToNat, hq, Option.isSome_some, LB3, lb3, c1]
    exact hbad (.inl c1) _ E3
  by_cases c2 : pl.pgs ≤ seed
  · simp only [core, Nat.reduceAdd, Nat.reduceSub, Nat.reduceMul, Nat.reduceLT, Nat.reduceEqDiff, reduceCtorEq, Nat.reduceLeDiff, Int.reduceLE, Int.reduceLT, Int.reduceToNat, hq, Option.isSome_some, LB3, lb3, LC3, lc3, c1, c2]
    exact hbad (.inr (.inl c2)) _ E3
  by_cases c3 : 8 ≤ seed
  · simp only [core, Nat.reduceAdd, Nat.reduceSub, Nat.reduceMul, Nat.reduceLT, Nat.reduceEqDiff, reduceCtorEq, Nat.reduceLeDiff, Int.reduceLE, Int.reduceLT, Int.reduceToNat, hq, Option.isSome_some, LB3, lb3, LC3, lc3, c1, c2, c3]
    exact hbad (.inr (.inr c3)) _ E3
  have hact : actF m pool seed = selectF m (hashPg pool seed) pl.size := by
    unfold actF
    rw [hq]
    simp only [if_neg (show ¬ (seed < 0 ∨ pl.pgs ≤ seed ∨ 8 ≤ seed) by omega)]
  simp only [core, Nat.reduceAdd, Nat.reduceSub, Nat.reduceMul, Nat.reduceLT, Nat.reduceEqDiff, reduceCtorEq, Nat.reduceLeDiff, Int.reduceLE, Int.reduceLT, Int.reduceToNat, hq, Option.isSome_some, LB3, lb3, LC3, lc3, c1, c2, c3]
  rw [WB_regionD [0, 1, 2, 3, 4, 5, 6, 8, 9, 7, 10, 11] 11146287964711016698268812174730525759504384 (by kernel_rfl)]
  repeat ((with_reducible refine WDM_cons ?_; simp only [dw1]; try simp only [dw2, Nat.reduceAdd, Nat.reduceMul, Nat.reduceShiftRight, Nat.reduceMod, Nat.reduceEqDiff]); simp only [core, Nat.reduceAdd, Nat.reduceSub, Nat.reduceMul, Nat.reduceLT, Nat.reduceEqDiff, reduceCtorEq, Nat.reduceLeDiff, Int.reduceLE, Int.reduceLT, Int.reduceToNat, cored, LA3, la3, LB3, lb3, LC3, lc3, i1, i2, i3])
  refine hash2R_c ?_
  repeat ((with_reducible refine WDM_cons ?_; simp only [dw1]; try simp only [dw2, Nat.reduceAdd, Nat.reduceMul, Nat.reduceShiftRight, Nat.reduceMod, Nat.reduceEqDiff]); simp only [core, Nat.reduceAdd, Nat.reduceSub, Nat.reduceMul, Nat.reduceLT, Nat.reduceEqDiff, reduceCtorEq, Nat.reduceLeDiff, Int.reduceLE, Int.reduceLT, Int.reduceToNat, cored, LA3, la3, LB3, lb3, LC3, lc3, i1, i2, i3])
  refine (selectR_x _ _ (hm.ext E3 (Nat.le_refl _)) hok hlo).mono ?_
  rintro v h4 ⟨e4, hv⟩
  have v1 := hv.isSl
  repeat ((with_reducible refine WDM_cons ?_; simp only [dw1]; try simp only [dw2, Nat.reduceAdd, Nat.reduceMul, Nat.reduceShiftRight, Nat.reduceMod, Nat.reduceEqDiff]); simp only [core, Nat.reduceAdd, Nat.reduceSub, Nat.reduceMul, Nat.reduceLT, Nat.reduceEqDiff, reduceCtorEq, Nat.reduceLeDiff, Int.reduceLE, Int.reduceLT, Int.reduceToNat, cored, v1, i1, i2, i3])
  refine ⟨E3.step e4, ?_⟩
  rw [hact]
  exact hv.lift fun b hb _ => ⟨rfl, Nat.le_trans E3.1 hb⟩
theorem act_x {F : Nat → Prop} {H : AH} {m : MapD} {vo vp vb : AV} (pool seed : Int) (hm : MpAt F H m vo vp vb) (hok : OkM m) (hlo : Sm 40 m.osds) (hpo : Sm 32 m.pools) :
    WC Try.prog (tabOf Try.prog NT0) S0 45 [mpV m vo vp vb, pgV pool seed] H fun v h' => Ext H.n H h' ∧ IsSl RInt (fun b => H.n ≤ b) h' v (actF m pool seed) := by
  refine WC_fn Try.func45 rfl rfl ?_
  have o1 := hm.o.one
  have o2 := hm.p.one
  have o3 := hm.b.one
  have i1 := hm.o.isSl
  have i2 := hm.p.isSl
  have i3 := hm.b.isSl
  simp only [core, Nat.reduceAdd, Nat.reduceSub, Nat.reduceMul, Nat.reduceLT, Nat.reduceEqDiff, reduceCtorEq, Nat.reduceLeDiff, Int.reduceLE, Int.reduceLT, Int.reduceToNat, Try.ntmps45, mpV, pgV, o1, o2, o3]
  obtain ⟨h1, hh1⟩ : ∃ h1, h1 = (H.push (.cells [.lit (.int .i64 m.epoch), vo, vp, vb, .lit (.int .i64 m.leaf)] 31)).push (.cells [.lit (.int .i64 pool), .lit (.int .i64 seed)] 56) := ⟨_, rfl⟩
  have E1 : Ext H.n H h1 := hh1 ▸ ((Ext.refl _ _).push _ (Nat.le_refl _)).push _ (by rw [n_push]; omega)
  have A1 : h1.at H.n = some (.cells [.lit (.int .i64 m.epoch), vo, vp, vb, .lit (.int .i64 m.leaf)] 31) := hh1 ▸ (at_push_lt _ (by rw [n_push]; omega)).trans (at_push_n _ _)
  have B1 : h1.at (H.n + 1) = some (.cells [.lit (.int .i64 pool), .lit (.int .i64 seed)] 56) := hh1 ▸ at_push_n _ _
  have la1 := at_lt A1
  have lb1 := at_lt B1
  have LA1 := ld_at (T := tabOf Try.prog NT0) A1
  have LB1 := ld_at (T := tabOf Try.prog NT0) B1
  rw [← hh1]
  clear hh1
  refine (pool_x pool (hm.ext E1 (Nat.le_refl _)) hpo).mono ?_
  rintro _ h2 ⟨e2, rfl⟩
  have E2 := E1.step e2
  have A2 := (e2.2 _ la1).trans A1
  have B2 := (e2.2 _ lb1).trans B1
  simp only [core, Nat.reduceAdd, Nat.reduceSub, Nat.reduceMul, Nat.reduceLT, Nat.reduceEqDiff, reduceCtorEq, Nat.reduceLeDiff, Int.reduceLE, Int.reduceLT, Int.reduceToNat, poolV]
  obtain ⟨h3, hh3⟩ : ∃ h3, h3 = h2.push (.cells [.lit (.int .i64 (poolG m pool).id), .lit (.int .i64 (poolG m pool).size), .lit (.int .i64 (poolG m pool).min), .lit (.int .i64 (poolG m pool).pgs)] 94) := ⟨_, rfl⟩
  have e3 : Ext h2.n h2 h3 := hh3 ▸ (Ext.refl _ _).push _ (Nat.le_refl _)
  have C3 : h3.at h2.n = some (.cells [.lit (.int .i64 (poolG m pool).id), .lit (.int .i64 (poolG m pool).size), .lit (.int .i64 (poolG m pool).min), .lit (.int .i64 (poolG m pool).pgs)] 94) := hh3 ▸ at_push_n _ _
  have E3 := E2.step e3
  have A3 := (e3.2 _ (at_lt A2)).trans A2
  have B3 := (e3.2 _ (at_lt B2)).trans B2
  have la3 := at_lt A3
  have lb3 := at_lt B3
  have lc3 := at_lt C3
  have LA3 := ld_at (T := tabOf Try.prog NT0) A3
  have LB3 := ld_at (T := tabOf Try.prog NT0) B3
  have LC3 := ld_at (T := tabOf Try.prog NT0) C3
  rw [← hh3]
  clear hh3
  by_cases hq : poolF m pool = none
  · simp only [core, Nat.reduceAdd, Nat.reduceSub, Nat.reduceMul, Nat.reduceLT, Nat.reduceEqDiff, reduceCtorEq, Nat.reduceLeDiff, Int.reduceLE, Int.reduceLT, Int.reduceToNat, hq, Option.isSome_none]
    refine ⟨E3, ?_⟩
    unfold actF
    rw [hq]
    exact IsSl.nil
  obtain ⟨pl, hq⟩ := Option.ne_none_iff_exists'.1 hq
  have hG : poolG m pool = pl := by unfold poolG; rw [hq]; rfl
  rw [hG] at LC3
  have hbad : (seed < 0 ∨ pl.pgs ≤ seed ∨ 8 ≤ seed) → ∀ h', Ext H.n H h' → Ext H.n H h' ∧ IsSl RInt (fun b => H.n ≤ b) h' (.lit (.slice none 0 0)) (actF m pool seed) := fun hc h' e => by
    refine ⟨e, ?_⟩
    unfold actF
    rw [hq]
    simp only [if_pos hc]
    exact IsSl.nil
  by_cases c1 : seed < 0
  · simp only [core, Nat.reduceAdd, Nat.reduceSub, Nat.reduceMul, Nat.reduceLT, Nat.reduceEqDiff, reduceCtorEq, Nat.reduceLeDiff, Int.reduceLE, Int.reduceLT, Int.reduceToNat, hq, Option.isSome_some, LB3, lb3, c1]
    exact hbad (.inl c1) _ E3
  by_cases c2 : pl.pgs ≤ seed
  · by_cases c4 : 8 < pl.pgs
    · have c5 : 8 ≤ seed := by omega
      simp only [core, Nat.reduceAdd, Nat.reduceSub, Nat.reduceMul, Nat.reduceLT, Nat.reduceEqDiff, reduceCtorEq, Nat.reduceLeDiff, Int.reduceLE, Int.reduceLT, Int.reduceToNat, hq, Option.isSome_some, LB3, lb3, LC3, lc3, c1, c4, c5]
      exact hbad (.inr (.inl c2)) _ E3
    · simp only [core, Nat.reduceAdd, Nat.reduceSub, Nat.reduceMul, Nat.reduceLT, Nat.reduceEqDiff, reduceCtorEq, Nat.reduceLeDiff, Int.reduceLE, Int.reduceLT, Int.reduceToNat, hq, Option.isSome_some, LB3, lb3, LC3, lc3, c1, c2, c4]
      exact hbad (.inr (.inl c2)) _ E3
  by_cases c3 : 8 ≤ seed
  · have c4 : 8 < pl.pgs := by omega
    simp only [core, Nat.reduceAdd, Nat.reduceSub, Nat.reduceMul, Nat.reduceLT, Nat.reduceEqDiff, reduceCtorEq, Nat.reduceLeDiff, Int.reduceLE, Int.reduceLT, Int.reduceToNat, hq, Option.isSome_some, LB3, lb3, LC3, lc3, c1, c4, c3]
    exact hbad (.inr (.inr c3)) _ E3
  have hact : actF m pool seed = selectF m (hashPg pool seed) pl.size := by
    unfold actF
    rw [hq]
    simp only [if_neg (show ¬ (seed < 0 ∨ pl.pgs ≤ seed ∨ 8 ≤ seed) by omega)]
  have c4 : ((if 8 < pl.pgs then 8 else pl.pgs) ≤ seed) = False := by
    simp only [eq_iff_iff, iff_false]
    split <;> omega
  simp only [core, Nat.reduceAdd, Nat.reduceSub, Nat.reduceMul, Nat.reduceLT, Nat.reduceEqDiff, reduceCtorEq, Nat.reduceLeDiff, Int.reduceLE, Int.reduceLT, Int.reduceToNat, hq, Option.isSome_some, LB3, lb3, LC3, lc3, c1, c4]
  rw [WB_regionD [0, 2, 3, 4, 5, 6, 7, 9, 10, 13, 1, 8, 11, 12] 1532168142376787500481165071645569925414942425950978048 (by kernel_rfl)]
  repeat ((with_reducible refine WDM_cons ?_; simp only [dw1]; try simp only [dw2, Nat.reduceAdd, Nat.reduceMul, Nat.reduceShiftRight, Nat.reduceMod, Nat.reduceEqDiff]); simp only [core, Nat.reduceAdd, Nat.reduceSub, Nat.reduceMul, Nat.reduceLT, Nat.reduceEqDiff, reduceCtorEq, Nat.reduceLeDiff, Int.reduceLE, Int.reduceLT, Int.reduceToNat, cored, LA3, la3, LB3, lb3, LC3, lc3, i1, i2, i3])
  refine new_x.mono ?_
  rintro _ h4 ⟨q, rfl, e4⟩
  have E4 := E3.step e4
  have A4 := (e4.2 _ la3).trans A3
  have B4 := (e4.2 _ lb3).trans B3
  have C4 := (e4.2 _ lc3).trans C3
  rw [hG] at C4
  have la4 := at_lt A4
  have lb4 := at_lt B4
  have lc4 := at_lt C4
  have LA4 := ld_at (T := tabOf Try.prog NT0) A4
  have LB4 := ld_at (T := tabOf Try.prog NT0) B4
  have LC4 := ld_at (T := tabOf Try.prog NT0) C4
  repeat ((with_reducible refine WDM_cons ?_; simp only [dw1]; try simp only [dw2, Nat.reduceAdd, Nat.reduceMul, Nat.reduceShiftRight, Nat.reduceMod, Nat.reduceEqDiff]); simp only [core, Nat.reduceAdd, Nat.reduceSub, Nat.reduceMul, Nat.reduceLT, Nat.reduceEqDiff, reduceCtorEq, Nat.reduceLeDiff, Int.reduceLE, Int.reduceLT, Int.reduceToNat, cored, LA4, la4, LB4, lb4, LC4, lc4, i1, i2, i3])
  refine hash2_c ?_
  repeat ((with_reducible refine WDM_cons ?_; simp only [dw1]; try simp only [dw2, Nat.reduceAdd, Nat.reduceMul, Nat.reduceShiftRight, Nat.reduceMod, Nat.reduceEqDiff]); simp only [core, Nat.reduceAdd, Nat.reduceSub, Nat.reduceMul, Nat.reduceLT, Nat.reduceEqDiff, reduceCtorEq, Nat.reduceLeDiff, Int.reduceLE, Int.reduceLT, Int.reduceToNat, cored, LA4, la4, LB4, lb4, LC4, lc4, i1, i2, i3])
  refine (selectC_x _ _ (hm.ext E4 (Nat.le_refl _)) hok hlo).mono ?_
  rintro v h5 ⟨e5, hv⟩
  have E5 := E4.step e5
  have A5 := (e5.2 _ la4).trans A4
  have la5 := at_lt A5
  have v1 := hv.isSl
  have v2 := hv.lenD
  rw [show hash2F (IntKind.u32.wrap seed) (IntKind.u32.wrap pool) = hashPg pool seed from rfl, ← hact] at hv v2
  repeat ((with_reducible refine WDM_cons ?_; simp only [dw1]; try simp only [dw2, Nat.reduceAdd, Nat.reduceMul, Nat.reduceShiftRight, Nat.reduceMod, Nat.reduceEqDiff]); simp only [core, Nat.reduceAdd, Nat.reduceSub, Nat.reduceMul, Nat.reduceLT, Nat.reduceEqDiff, reduceCtorEq, Nat.reduceLeDiff, Int.reduceLE, Int.reduceLT, Int.reduceToNat, cored, v1, v2, i1, i2, i3])
  have hlen := actF_len (m := m) (pool := pool) (seed := seed)
  refine WB_for (actF m pool seed).length (fun i t h => ∃ o, OwnL RInt (fun _ => False) h5.n h o 3 ((actF m pool seed).take i) ∧ Ext h5.n h5 h ∧ t.n = 58 ∧ t.get 2 = .ptr H.n 0 ∧ t.get 7 = o ∧ t.get 43 = v ∧ t.get 44 = .lit (.int .i64 (actF m pool seed).length) ∧ t.get 45 = .lit (.int .i64 i)) ?_ ?_ _ _ ?_
  · rintro i t h hlt hc ⟨o, ho, he, hn, g2, g7, g43, g44, g45⟩ ih
    have E6 := E5.step he
    have A6 := (he.2 _ la5).trans A5
    have la6 := at_lt A6
    have LA6 := ld_at (T := tabOf Try.prog NT0) A6
    have hws := wrap_succ hlt (by omega)
    have hld := (hv.ext he (Nat.le_refl _)).int (T := tabOf Try.prog NT0) (e := 3) (by kernel_rfl) (by kernel_rfl) hlt
    have hel := getD_some' (0 : Int) hlt
    have hab := actF_able ((actF m pool seed).getD i 0) (List.mem_of_getElem? hel)
    have I1 := hv.i64 i hlt
    simp only [core, Nat.reduceAdd, Nat.reduceSub, Nat.reduceMul, Nat.reduceLT, Nat.reduceEqDiff, reduceCtorEq, Nat.reduceLeDiff, Int.reduceLE, Int.reduceLT, Int.reduceToNat, hn, g2, g7, g43, g44, g45, hc, hlt, hld, LA6, la6, v1, v2]
    refine (able_x _ (hm.ext E6 (Nat.le_refl _)) hlo).mono ?_
    rintro _ h7 ⟨e7, rfl⟩
    have he7 := he.step e7
    have ho7 := ho.ext e7 (Nat.le_refl _)
    simp only [core, Nat.reduceAdd, Nat.reduceSub, Nat.reduceMul, Nat.reduceLT, Nat.reduceEqDiff, reduceCtorEq, Nat.reduceLeDiff, Int.reduceLE, Int.reduceLT, Int.reduceToNat, hn, g2, g7, g43, g44, g45, hab]
    obtain ⟨h8, hh8⟩ : ∃ h8, h8 = h7.push (.cells [.lit (.int .i64 ((actF m pool seed).getD i 0))] 3) := ⟨_, rfl⟩
    have e8 : Ext h7.n h7 h8 := hh8 ▸ (Ext.refl _ _).push _ (Nat.le_refl _)
    have A8 : h8.at h7.n = some (.cells [.lit (.int .i64 ((actF m pool seed).getD i 0))] 3) := hh8 ▸ at_push_n h7 _
    have q7 := he7.1
    have q8 := e8.1
    rw [← hh8]
    have htl : ((actF m pool seed).take i).length = i := by rw [List.length_take]; omega
    refine WOp_app ((ho7.ext e8 (Nat.le_refl _)).snoc (by kernel_rfl) (by kernel_rfl) (by kernel_rfl) (zv := .lit (.int .i64 0)) (by kernel_rfl) (by' := 8) (by kernel_rfl) rfl (by decide) (by decide) A8 (y := (actF m pool seed).getD i 0) ⟨rfl, I1⟩ (by omega) (by omega) (by omega)) ?_
    rintro s9 h9 ⟨ho9, e9, k9⟩
    have t9 := ho9.one
    simp only [core, Nat.reduceAdd, Nat.reduceSub, Nat.reduceMul, Nat.reduceLT, Nat.reduceEqDiff, reduceCtorEq, Nat.reduceLeDiff, Int.reduceLE, Int.reduceLT, Int.reduceToNat, hn, g2, g7, g43, g44, g45, t9, hws]
    refine ih _ _ ⟨s9, ?_, (he7.step e8).trans e9, ?_⟩
    · rw [List.take_add_one, hel]
      exact ho9
    · simp only [core, Nat.reduceAdd, Nat.reduceSub, Nat.reduceMul, Nat.reduceLT, Nat.reduceEqDiff, reduceCtorEq, Nat.reduceLeDiff, Int.reduceLE, Int.reduceLT, Int.reduceToNat, hn, g2, g7, g43, g44, g45]
  · rintro t h hc ⟨o, ho, he, hn, g2, g7, g43, g44, g45⟩
    have t9 := ho.one
    rw [List.take_length] at ho
    simp only [core, Nat.reduceAdd, Nat.reduceSub, Nat.reduceMul, Nat.reduceLT, Nat.reduceEqDiff, reduceCtorEq, Nat.reduceLeDiff, Int.reduceLE, Int.reduceLT, Int.reduceToNat, hn, g2, g7, g43, g44, g45, hc, t9]
    refine ⟨E5.step he, ?_⟩
    exact ho.toSl (fun _ hf => hf.elim) (fun b hb => by have := E5.1; omega)
  · simp only [core, Nat.reduceAdd, Nat.reduceSub, Nat.reduceMul, Nat.reduceLT, Nat.reduceEqDiff, reduceCtorEq, Nat.reduceLeDiff, Int.reduceLE, Int.reduceLT, Int.reduceToNat]
    exact ⟨_, OwnL.nil, Ext.refl _ _, rfl, rfl⟩
end Go.Proofs.Ytkgbeihcepociaa.Ex
end

section

set_option linter.unusedSimpArgs false
set_option linter.unusedVariables false
set_option maxRecDepth 10000
set_option maxHeartbeats 4000000
namespace Go.Proofs.Ytkgbeihcepociaa.Ex
open Go
def bootO (m : MapD) (o : Int) : Int := match m.osds[o.toNat]? with
  | some y => y.boot
  | none => 0
def bootF (m : MapD) (l : List Int) : List Int := l.map (bootO m)
theorem able_inv {m : MapD} {o : Int} (h : ableF m o = true) : ∃ (k : Nat) (y : OsdD), o = (k : Int) ∧ m.osds[k]? = some y := by
  unfold ableF at h
  split at h
  · rename_i h0
    split at h
    · rename_i y hy
      exact ⟨_, y, (Int.toNat_of_nonneg h0).symm, hy⟩
    · cases h
  · cases h
theorem bootsR_x {F : Nat → Prop} {H : AH} {m : MapD} {vo vp vb : AV} (pool seed : Int) (hm : MpAt F H m vo vp vb) (hok : OkM m) (hlo : Sm 40 m.osds) (hpo : Sm 32 m.pools) :
    WC Try.prog (tabOf Try.prog NT0) S0 52 [mpV m vo vp vb, pgV pool seed] H fun v h' => Ext H.n H h' ∧ IsSl RInt (fun b => H.n ≤ b) h' v (bootF m (actF m pool seed)) := by
  refine WC_fn Try.func52 rfl rfl ?_
  have o1 := hm.o.one
  have o2 := hm.p.one
  have o3 := hm.b.one
  have w1 := hm.o.isSl
  have w2 := hm.o.lenD
  simp only [core, Nat.reduceAdd, Nat.reduceSub, Nat.reduceMul, Nat.reduceLT, Nat.reduceEqDiff, reduceCtorEq, Nat.reduceLeDiff, Int.reduceLE, Int.reduceLT, Int.reduceToNat, Try.ntmps52, mpV, pgV, o1, o2, o3]
  obtain ⟨h1, hh1⟩ : ∃ h1, h1 = (H.push (.cells [.lit (.int .i64 m.epoch), vo, vp, vb, .lit (.int .i64 m.leaf)] 31)).push (.cells [.lit (.int .i64 pool), .lit (.int .i64 seed)] 56) := ⟨_, rfl⟩
  have E1 : Ext H.n H h1 := hh1 ▸ ((Ext.refl _ _).push _ (Nat.le_refl _)).push _ (by rw [n_push]; omega)
  have A1 : h1.at H.n = some (.cells [.lit (.int .i64 m.epoch), vo, vp, vb, .lit (.int .i64 m.leaf)] 31) := hh1 ▸ (at_push_lt _ (by rw [n_push]; omega)).trans (at_push_n _ _)
  have B1 : h1.at (H.n + 1) = some (.cells [.lit (.int .i64 pool), .lit (.int .i64 seed)] 56) := hh1 ▸ at_push_n _ _
  have la1 := at_lt A1
  have lb1 := at_lt B1
  have LA1 := ld_at (T := tabOf Try.prog NT0) A1
  have LB1 := ld_at (T := tabOf Try.prog NT0) B1
  rw [← hh1]
  clear hh1
  refine (actR_x pool seed (hm.ext E1 (Nat.le_refl _)) hok hlo hpo).mono ?_
  rintro v h2 ⟨e2, hv⟩
  have E2 := E1.step e2
  have A2 := (e2.2 _ la1).trans A1
  have la2 := at_lt A2
  have v1 := hv.isSl
  have v2 := hv.lenD
  have hlen := actF_len (m := m) (pool := pool) (seed := seed)
  simp only [core, Nat.reduceAdd, Nat.reduceSub, Nat.reduceMul, Nat.reduceLT, Nat.reduceEqDiff, reduceCtorEq, Nat.reduceLeDiff, Int.reduceLE, Int.reduceLT, Int.reduceToNat, v1, v2]
  refine WB_for (actF m pool seed).length (fun i t h => ∃ o, OwnL RInt (fun _ => False) h2.n h o 3 (bootF m ((actF m pool seed).take i)) ∧ Ext h2.n h2 h ∧ t.n = 27 ∧ t.get 2 = .ptr H.n 0 ∧ t.get 5 = o ∧ t.get 10 = v ∧ t.get 11 = .lit (.int .i64 (actF m pool seed).length) ∧ t.get 12 = .lit (.int .i64 i)) ?_ ?_ _ _ ?_
  · rintro i t h hlt hc ⟨o, ho, he, hn, g2, g5, g10, g11, g12⟩ ih
    have E3 := E2.step he
    have A3 := (he.2 _ la2).trans A2
    have la3 := at_lt A3
    have LA3 := ld_at (T := tabOf Try.prog NT0) A3
    have hws := wrap_succ hlt (by omega)
    have hld := (hv.ext he (Nat.le_refl _)).int (T := tabOf Try.prog NT0) (e := 3) (by kernel_rfl) (by kernel_rfl) hlt
    obtain ⟨k, y, hk, hky⟩ := able_inv (actF_able ((actF m pool seed).getD i 0) (List.mem_of_getElem? (getD_some' 0 hlt)))
    have hkl : k < m.osds.length := (List.getElem?_eq_some_iff.1 hky).1
    obtain ⟨c, hc1, hg⟩ := (hm.o.ext E3 (Nat.le_refl _)).get (T := tabOf Try.prog NT0) hky
    obtain ⟨rfl, -, I1, -⟩ := ROsd_is.1 hc1
    have hgb : loadA (tabOf Try.prog NT0) h 3 (slB vo) (slO vo + k * 6 + 3) = some (.lit (.int .i64 y.boot)) := (hg 3 1 3 (by kernel_rfl) (by omega) (by decide)).trans (by simp only [core, Nat.reduceAdd, Nat.reduceSub, Nat.reduceMul, Nat.reduceLT, Nat.reduceEqDiff, reduceCtorEq, Nat.reduceLeDiff, Int.reduceLE, Int.reduceLT, Int.reduceToNat])
    rw [hk] at hld
    simp only [core, Nat.reduceAdd, Nat.reduceSub, Nat.reduceMul, Nat.reduceLT, Nat.reduceEqDiff, reduceCtorEq, Nat.reduceLeDiff, Int.reduceLE, Int.reduceLT, Int.reduceToNat, hn, g2, g5, g10, g11, g12, hc, hlt, hld, LA3, la3, v1, v2, w1, w2, hkl, hgb]
    obtain ⟨h8, hh8⟩ : ∃ h8, h8 = h.push (.cells [.lit (.int .i64 y.boot)] 3) := ⟨_, rfl⟩
    have e8 : Ext h.n h h8 := hh8 ▸ (Ext.refl _ _).push _ (Nat.le_refl _)
    have A8 : h8.at h.n = some (.cells [.lit (.int .i64 y.boot)] 3) := hh8 ▸ at_push_n h _
    have q7 := he.1
    have q8 := e8.1
    rw [← hh8]
    have htl : (bootF m ((actF m pool seed).take i)).length = i := by unfold bootF; rw [List.length_map, List.length_take]; omega
    refine WOp_app ((ho.ext e8 (Nat.le_refl _)).snoc (by kernel_rfl) (by kernel_rfl) (by kernel_rfl) (zv := .lit (.int .i64 0)) (by kernel_rfl) (by' := 8) (by kernel_rfl) rfl (by decide) (by decide) A8 (y := y.boot) ⟨rfl, I1⟩ (by omega) (by omega) (by omega)) ?_
    rintro s9 h9 ⟨ho9, e9, k9⟩
    have t9 := ho9.one
    simp only [core, Nat.reduceAdd, Nat.reduceSub, Nat.reduceMul, Nat.reduceLT, Nat.reduceEqDiff, reduceCtorEq, Nat.reduceLeDiff, Int.reduceLE, Int.reduceLT, Int.reduceToNat, hn, g2, g5, g10, g11, g12, t9, hws]
    refine ih _ _ ⟨s9, ?_, (he.step e8).trans e9, ?_⟩
    · have hel := getD_some' (0 : Int) hlt
      rw [List.take_add_one, hel, hk]
      unfold bootF at ho9 ⊢
      rw [List.map_append]
      have hb : bootO m (k : Int) = y.boot := by unfold bootO; rw [Int.toNat_natCast, hky]
      simp only [Option.toList_some, List.map_cons, List.map_nil, hb]
      exact ho9
    · simp only [core, Nat.reduceAdd, Nat.reduceSub, Nat.reduceMul, Nat.reduceLT, Nat.reduceEqDiff, reduceCtorEq, Nat.reduceLeDiff, Int.reduceLE, Int.reduceLT, Int.reduceToNat, hn, g2, g5, g10, g11, g12]
  · rintro t h hc ⟨o, ho, he, hn, g2, g5, g10, g11, g12⟩
    have t9 := ho.one
    rw [List.take_length] at ho
    simp only [core, Nat.reduceAdd, Nat.reduceSub, Nat.reduceMul, Nat.reduceLT, Nat.reduceEqDiff, reduceCtorEq, Nat.reduceLeDiff, Int.reduceLE, Int.reduceLT, Int.reduceToNat, hn, g2, g5, g10, g11, g12, hc, t9]
    refine ⟨E2.step he, ?_⟩
    exact ho.toSl (fun _ hf => hf.elim) (fun b hb => by have := E2.1; omega)
  · simp only [core, Nat.reduceAdd, Nat.reduceSub, Nat.reduceMul, Nat.reduceLT, Nat.reduceEqDiff, reduceCtorEq, Nat.reduceLeDiff, Int.reduceLE, Int.reduceLT, Int.reduceToNat]
    exact ⟨_, OwnL.nil, Ext.refl _ _, rfl, rfl⟩
theorem boots_x {F : Nat → Prop} {H : AH} {m : MapD} {vo vp vb : AV} (pool seed : Int) (hm : MpAt F H m vo vp vb) (hok : OkM m) (hlo : Sm 40 m.osds) (hpo : Sm 32 m.pools) :
    WC Try.prog (tabOf Try.prog NT0) S0 51 [mpV m vo vp vb, pgV pool seed] H fun v h' => Ext H.n H h' ∧ IsSl RInt (fun b => H.n ≤ b) h' v (bootF m (actF m pool seed)) := by
  refine WC_fn Try.func51 rfl rfl ?_
  have o1 := hm.o.one
  have o2 := hm.p.one
  have o3 := hm.b.one
  have w1 := hm.o.isSl
  have w2 := hm.o.lenD
  simp only [core, Nat.reduceAdd, Nat.reduceSub, Nat.reduceMul, Nat.reduceLT, Nat.reduceEqDiff, reduceCtorEq, Nat.reduceLeDiff, Int.reduceLE, Int.reduceLT, Int.reduceToNat, Try.ntmps51, mpV, pgV, o1, o2, o3]
  obtain ⟨h1, hh1⟩ : ∃ h1, h1 = (H.push (.cells [.lit (.int .i64 m.epoch), vo, vp, vb, .lit (.int .i64 m.leaf)] 31)).push (.cells [.lit (.int .i64 pool), .lit (.int .i64 seed)] 56) := ⟨_, rfl⟩
  have E1 : Ext H.n H h1 := hh1 ▸ ((Ext.refl _ _).push _ (Nat.le_refl _)).push _ (by rw [n_push]; omega)
  have A1 : h1.at H.n = some (.cells [.lit (.int .i64 m.epoch), vo, vp, vb, .lit (.int .i64 m.leaf)] 31) := hh1 ▸ (at_push_lt _ (by rw [n_push]; omega)).trans (at_push_n _ _)
  have B1 : h1.at (H.n + 1) = some (.cells [.lit (.int .i64 pool), .lit (.int .i64 seed)] 56) := hh1 ▸ at_push_n _ _
  have la1 := at_lt A1
  have lb1 := at_lt B1
  have LA1 := ld_at (T := tabOf Try.prog NT0) A1
  have LB1 := ld_at (T := tabOf Try.prog NT0) B1
  rw [← hh1]
  clear hh1
  refine (act_x pool seed (hm.ext E1 (Nat.le_refl _)) hok hlo hpo).mono ?_
  rintro v h2 ⟨e2, hv⟩
  have E2 := E1.step e2
  have A2 := (e2.2 _ la1).trans A1
  have la2 := at_lt A2
  have v1 := hv.isSl
  have v2 := hv.lenD
  have hlen := actF_len (m := m) (pool := pool) (seed := seed)
  simp only [core, Nat.reduceAdd, Nat.reduceSub, Nat.reduceMul, Nat.reduceLT, Nat.reduceEqDiff, reduceCtorEq, Nat.reduceLeDiff, Int.reduceLE, Int.reduceLT, Int.reduceToNat, v1, v2]
  refine WB_for (actF m pool seed).length (fun i t h => ∃ o, OwnL RInt (fun _ => False) h2.n h o 3 (bootF m ((actF m pool seed).take i)) ∧ Ext h2.n h2 h ∧ t.n = 27 ∧ t.get 2 = .ptr H.n 0 ∧ t.get 5 = o ∧ t.get 10 = v ∧ t.get 11 = .lit (.int .i64 (actF m pool seed).length) ∧ t.get 12 = .lit (.int .i64 i)) ?_ ?_ _ _ ?_
  · rintro i t h hlt hc ⟨o, ho, he, hn, g2, g5, g10, g11, g12⟩ ih
    have E3 := E2.step he
    have A3 := (he.2 _ la2).trans A2
    have la3 := at_lt A3
    have LA3 := ld_at (T := tabOf Try.prog NT0) A3
    have hws := wrap_succ hlt (by omega)
    have hld := (hv.ext he (Nat.le_refl _)).int (T := tabOf Try.prog NT0) (e := 3) (by kernel_rfl) (by kernel_rfl) hlt
    obtain ⟨k, y, hk, hky⟩ := able_inv (actF_able ((actF m pool seed).getD i 0) (List.mem_of_getElem? (getD_some' 0 hlt)))
    have hkl : k < m.osds.length := (List.getElem?_eq_some_iff.1 hky).1
    obtain ⟨c, hc1, hg⟩ := (hm.o.ext E3 (Nat.le_refl _)).get (T := tabOf Try.prog NT0) hky
    obtain ⟨rfl, -, I1, -⟩ := ROsd_is.1 hc1
    have hgb : loadA (tabOf Try.prog NT0) h 3 (slB vo) (slO vo + k * 6 + 3) = some (.lit (.int .i64 y.boot)) := (hg 3 1 3 (by kernel_rfl) (by omega) (by decide)).trans (by simp only [core, Nat.reduceAdd, Nat.reduceSub, Nat.reduceMul, Nat.reduceLT, Nat.reduceEqDiff, reduceCtorEq, Nat.reduceLeDiff, Int.reduceLE, Int.reduceLT, Int.reduceToNat])
    rw [hk] at hld
    simp only [core, Nat.reduceAdd, Nat.reduceSub, Nat.reduceMul, Nat.reduceLT, Nat.reduceEqDiff, reduceCtorEq, Nat.reduceLeDiff, Int.reduceLE, Int.reduceLT, Int.reduceToNat, hn, g2, g5, g10, g11, g12, hc, hlt, hld, LA3, la3, v1, v2, w1, w2, hkl, hgb]
    obtain ⟨h8, hh8⟩ : ∃ h8, h8 = h.push (.cells [.lit (.int .i64 y.boot)] 3) := ⟨_, rfl⟩
    have e8 : Ext h.n h h8 := hh8 ▸ (Ext.refl _ _).push _ (Nat.le_refl _)
    have A8 : h8.at h.n = some (.cells [.lit (.int .i64 y.boot)] 3) := hh8 ▸ at_push_n h _
    have q7 := he.1
    have q8 := e8.1
    rw [← hh8]
    have htl : (bootF m ((actF m pool seed).take i)).length = i := by unfold bootF; rw [List.length_map, List.length_take]; omega
    refine WOp_app ((ho.ext e8 (Nat.le_refl _)).snoc (by kernel_rfl) (by kernel_rfl) (by kernel_rfl) (zv := .lit (.int .i64 0)) (by kernel_rfl) (by' := 8) (by kernel_rfl) rfl (by decide) (by decide) A8 (y := y.boot) ⟨rfl, I1⟩ (by omega) (by omega) (by omega)) ?_
    rintro s9 h9 ⟨ho9, e9, k9⟩
    have t9 := ho9.one
    simp only [core, Nat.reduceAdd, Nat.reduceSub, Nat.reduceMul, Nat.reduceLT, Nat.reduceEqDiff, reduceCtorEq, Nat.reduceLeDiff, Int.reduceLE, Int.reduceLT, Int.reduceToNat, hn, g2, g5, g10, g11, g12, t9, hws]
    refine ih _ _ ⟨s9, ?_, (he.step e8).trans e9, ?_⟩
    · have hel := getD_some' (0 : Int) hlt
      rw [List.take_add_one, hel, hk]
      unfold bootF at ho9 ⊢
      rw [List.map_append]
      have hb : bootO m (k : Int) = y.boot := by unfold bootO; rw [Int.toNat_natCast, hky]
      simp only [Option.toList_some, List.map_cons, List.map_nil, hb]
      exact ho9
    · simp only [core, Nat.reduceAdd, Nat.reduceSub, Nat.reduceMul, Nat.reduceLT, Nat.reduceEqDiff, reduceCtorEq, Nat.reduceLeDiff, Int.reduceLE, Int.reduceLT, Int.reduceToNat, hn, g2, g5, g10, g11, g12]
  · rintro t h hc ⟨o, ho, he, hn, g2, g5, g10, g11, g12⟩
    have t9 := ho.one
    rw [List.take_length] at ho
    simp only [core, Nat.reduceAdd, Nat.reduceSub, Nat.reduceMul, Nat.reduceLT, Nat.reduceEqDiff, reduceCtorEq, Nat.reduceLeDiff, Int.reduceLE, Int.reduceLT, Int.reduceToNat, hn, g2, g5, g10, g11, g12, hc, t9]
    refine ⟨E2.step he, ?_⟩
    exact ho.toSl (fun _ hf => hf.elim) (fun b hb => by have := E2.1; omega)
  · simp only [core, Nat.reduceAdd, Nat.reduceSub, Nat.reduceMul, Nat.reduceLT, Nat.reduceEqDiff, reduceCtorEq, Nat.reduceLeDiff, Int.reduceLE, Int.reduceLT, Int.reduceToNat]
    exact ⟨_, OwnL.nil, Ext.refl _ _, rfl, rfl⟩
end Go.Proofs.Ytkgbeihcepociaa.Ex
end

section

set_option linter.unusedSimpArgs false
set_option linter.unusedVariables false
set_option maxRecDepth 10000
set_option maxHeartbeats 4000000
namespace Go.Proofs.Ytkgbeihcepociaa.Ex
open Go
theorem stable_x {H : AH} {p : Nat} {e : TypeId} {cap : Cap} {ps : List PoolD} (hat : H.at p = some (.cells (psC ps) e)) (h0 : 0 < ps.length) (hn : ps.length < 20) :
    WC Try.prog (tabOf Try.prog NT0) S0 133 [.sl p 0 ps.length cap, .lit (.int .i64 ps.length), .fn (.func 99) [] []] H fun r h' => r = .tup [] ∧ Ext p H h' ∧ h'.at p = some (.cells (psC (isoF ps)) e) := by
  refine WC_fn Try.func133 rfl rfl ?_
  have c1 : ((20 : Int) ≤ (ps.length : Int)) = False := by simp only [eq_iff_iff, iff_false]; omega
  have c2 : ((20 : Int) < (ps.length : Int)) = False := by simp only [eq_iff_iff, iff_false]; omega
  simp only [core, Nat.reduceAdd, Nat.reduceSub, Nat.reduceMul, Nat.reduceLT, Nat.reduceEqDiff, reduceCtorEq, Nat.reduceLeDiff, Int.reduceLE, Int.reduceLT, Int.reduceToNat, Try.ntmps133]
  refine WB_ind (fun (_ : Unit) t h => h = H ∧ t.n = 63 ∧ t.get 0 = .sl p 0 ps.length cap ∧ t.get 1 = .lit (.int .i64 ps.length) ∧ t.get 2 = .fn (.func 99) [] [] ∧ t.get 6 = .lit (.int .i64 20) ∧ t.get 7 = .lit (.int .i64 0) ∧ t.get 8 = .lit (.int .i64 20)) (fun _ => 0) ?_ () _ _ ?_
  · rintro _ t h ⟨rfl, hn, g0, g1, g2, g6, g7, g8⟩ ih
    simp only [core, Nat.reduceAdd, Nat.reduceSub, Nat.reduceMul, Nat.reduceLT, Nat.reduceEqDiff, reduceCtorEq, Nat.reduceLeDiff, Int.reduceLE, Int.reduceLT, Int.reduceToNat, hn, g0, g1, g2, g6, g7, g8, c1]
    refine (isort_x hat h0 (by omega)).mono ?_
    rintro _ h2 ⟨rfl, e2, P2⟩
    simp only [core, Nat.reduceAdd, Nat.reduceSub, Nat.reduceMul, Nat.reduceLT, Nat.reduceEqDiff, reduceCtorEq, Nat.reduceLeDiff, Int.reduceLE, Int.reduceLT, Int.reduceToNat, hn, g0, g1, g2, g6, g7, g8]
    refine WB_ind (fun (_ : Unit) t h => h = h2 ∧ t.n = 63 ∧ t.get 0 = .sl p 0 ps.length cap ∧ t.get 1 = .lit (.int .i64 ps.length) ∧ t.get 2 = .fn (.func 99) [] [] ∧ t.get 6 = .lit (.int .i64 20)) (fun _ => 0) ?_ () _ _ ?_
    · rintro _ t h ⟨rfl, hn, g0, g1, g2, g6⟩ ih2
      simp only [core, Nat.reduceAdd, Nat.reduceSub, Nat.reduceMul, Nat.reduceLT, Nat.reduceEqDiff, reduceCtorEq, Nat.reduceLeDiff, Int.reduceLE, Int.reduceLT, Int.reduceToNat, hn, g0, g1, g2, g6, c2]
      exact ⟨by simp, e2, P2⟩
    · simp only [core, Nat.reduceAdd, Nat.reduceSub, Nat.reduceMul, Nat.reduceLT, Nat.reduceEqDiff, reduceCtorEq, Nat.reduceLeDiff, Int.reduceLE, Int.reduceLT, Int.reduceToNat, hn, g0, g1, g2, g6, g7, g8]
  · simp only [core, Nat.reduceAdd, Nat.reduceSub, Nat.reduceMul, Nat.reduceLT, Nat.reduceEqDiff, reduceCtorEq, Nat.reduceLeDiff, Int.reduceLE, Int.reduceLT, Int.reduceToNat]
theorem sortP_x {H : AH} {p : Nat} {e : TypeId} {cap : Cap} {ps : List PoolD} (hat : H.at p = some (.cells (psC ps) e)) (h0 : 0 < ps.length) (hn : ps.length < 20) :
    WC Try.prog (tabOf Try.prog NT0) S0 98 [.sl p 0 ps.length cap, .fn (.func 99) [] []] H fun r h' => r = .tup [] ∧ Ext p H h' ∧ h'.at p = some (.cells (psC (isoF ps)) e) := by
  refine WC_fn Try.func98 rfl rfl ?_
  have s1 : Ex.isSl (.sl p 0 ps.length cap) = true := rfl
  have s2 : Ex.lenD (.sl p 0 ps.length cap) = ps.length := rfl
  simp only [core, Nat.reduceAdd, Nat.reduceSub, Nat.reduceMul, Nat.reduceLT, Nat.reduceEqDiff, reduceCtorEq, Nat.reduceLeDiff, Int.reduceLE, Int.reduceLT, Int.reduceToNat, Try.ntmps98, s1, s2]
  refine (stable_x hat h0 hn).mono ?_
  rintro _ h2 ⟨rfl, e2, P2⟩
  simp only [core, Nat.reduceAdd, Nat.reduceSub, Nat.reduceMul, Nat.reduceLT, Nat.reduceEqDiff, reduceCtorEq, Nat.reduceLeDiff, Int.reduceLE, Int.reduceLT, Int.reduceToNat]
  exact ⟨by simp, e2, P2⟩
theorem sortZ_x {H : AH} {v : AV} (o1 : v.one = true) (s1 : Ex.isSl v = true) (s2 : Ex.lenD v = 0) :
    WC Try.prog (tabOf Try.prog NT0) S0 98 [v, .fn (.func 99) [] []] H fun r h' => r = .tup [] ∧ h' = H := by
  have hi : ∀ h, WC Try.prog (tabOf Try.prog NT0) S0 165 [v, .lit (.int .i64 0), .lit (.int .i64 0), .fn (.func 99) [] []] h fun r h' => r = .tup [] ∧ h' = h := fun h => by
    refine WC_fn Try.func165 rfl rfl ?_
    simp only [core, Nat.reduceAdd, Nat.reduceSub, Nat.reduceMul, Nat.reduceLT, Nat.reduceEqDiff, reduceCtorEq, Nat.reduceLeDiff, Int.reduceLE, Int.reduceLT, Int.reduceToNat, Try.ntmps165]
    have hw : IntKind.i64.wrap (0 + 1) = 1 := by decide
    have hlt : ((1 : Int) < 0) = False := by decide
    refine WB_ind (fun (_ : Unit) t h1 => h1 = h ∧ t.n = 53 ∧ t.get 2 = .lit (.int .i64 0) ∧ t.get 8 = .lit (.int .i64 1)) (fun _ => 0) ?_ () _ _ ?_
    · rintro _ t h1 ⟨rfl, hn, g2, g8⟩ ih
      simp only [core, Nat.reduceAdd, Nat.reduceSub, Nat.reduceMul, Nat.reduceLT, Nat.reduceEqDiff, reduceCtorEq, Nat.reduceLeDiff, Int.reduceLE, Int.reduceLT, Int.reduceToNat, hn, g2, g8, hlt]
      simp
    · simp only [core, Nat.reduceAdd, Nat.reduceSub, Nat.reduceMul, Nat.reduceLT, Nat.reduceEqDiff, reduceCtorEq, Nat.reduceLeDiff, Int.reduceLE, Int.reduceLT, Int.reduceToNat, hw]
  refine WC_fn Try.func98 rfl rfl ?_
  simp only [core, Nat.reduceAdd, Nat.reduceSub, Nat.reduceMul, Nat.reduceLT, Nat.reduceEqDiff, reduceCtorEq, Nat.reduceLeDiff, Int.reduceLE, Int.reduceLT, Int.reduceToNat, Try.ntmps98, s1, s2, o1]
  have c1 : ((20 : Int) ≤ 0) = False := by decide
  have c2 : ((20 : Int) < 0) = False := by decide
  have hst : WC Try.prog (tabOf Try.prog NT0) S0 133 [v, .lit (.int .i64 0), .fn (.func 99) [] []] H fun r h' => r = .tup [] ∧ h' = H := by
    refine WC_fn Try.func133 rfl rfl ?_
    simp only [core, Nat.reduceAdd, Nat.reduceSub, Nat.reduceMul, Nat.reduceLT, Nat.reduceEqDiff, reduceCtorEq, Nat.reduceLeDiff, Int.reduceLE, Int.reduceLT, Int.reduceToNat, Try.ntmps133]
    refine WB_ind (fun (_ : Unit) t h => h = H ∧ t.n = 63 ∧ t.get 0 = v ∧ t.get 1 = .lit (.int .i64 0) ∧ t.get 2 = .fn (.func 99) [] [] ∧ t.get 6 = .lit (.int .i64 20) ∧ t.get 7 = .lit (.int .i64 0) ∧ t.get 8 = .lit (.int .i64 20)) (fun _ => 0) ?_ () _ _ ?_
    · rintro _ t h ⟨rfl, hn, g0, g1, g2, g6, g7, g8⟩ ih
      simp only [core, Nat.reduceAdd, Nat.reduceSub, Nat.reduceMul, Nat.reduceLT, Nat.reduceEqDiff, reduceCtorEq, Nat.reduceLeDiff, Int.reduceLE, Int.reduceLT, Int.reduceToNat, hn, g0, g1, g2, g6, g7, g8, c1]
      refine (hi h).mono ?_
      rintro _ h2 ⟨rfl, rfl⟩
      simp only [core, Nat.reduceAdd, Nat.reduceSub, Nat.reduceMul, Nat.reduceLT, Nat.reduceEqDiff, reduceCtorEq, Nat.reduceLeDiff, Int.reduceLE, Int.reduceLT, Int.reduceToNat, hn, g0, g1, g2, g6, g7, g8]
      refine WB_ind (fun (_ : Unit) t h => h = h2 ∧ t.n = 63 ∧ t.get 0 = v ∧ t.get 1 = .lit (.int .i64 0) ∧ t.get 2 = .fn (.func 99) [] [] ∧ t.get 6 = .lit (.int .i64 20)) (fun _ => 0) ?_ () _ _ ?_
      · rintro _ t h ⟨rfl, hn, g0, g1, g2, g6⟩ ih2
        simp only [core, Nat.reduceAdd, Nat.reduceSub, Nat.reduceMul, Nat.reduceLT, Nat.reduceEqDiff, reduceCtorEq, Nat.reduceLeDiff, Int.reduceLE, Int.reduceLT, Int.reduceToNat, hn, g0, g1, g2, g6, c2]
        simp
      · simp only [core, Nat.reduceAdd, Nat.reduceSub, Nat.reduceMul, Nat.reduceLT, Nat.reduceEqDiff, reduceCtorEq, Nat.reduceLeDiff, Int.reduceLE, Int.reduceLT, Int.reduceToNat, hn, g0, g1, g2, g6, g7, g8]
    · simp only [core, Nat.reduceAdd, Nat.reduceSub, Nat.reduceMul, Nat.reduceLT, Nat.reduceEqDiff, reduceCtorEq, Nat.reduceLeDiff, Int.reduceLE, Int.reduceLT, Int.reduceToNat]
  refine (hst).mono ?_
  rintro _ h2 ⟨rfl, rfl⟩
  simp only [core, Nat.reduceAdd, Nat.reduceSub, Nat.reduceMul, Nat.reduceLT, Nat.reduceEqDiff, reduceCtorEq, Nat.reduceLeDiff, Int.reduceLE, Int.reduceLT, Int.reduceToNat]
  simp
theorem OwnL.pools {G : Nat → Prop} {n0 : Nat} {h : AH} {v : AV} {e : TypeId} {xs : List PoolD} (ho : OwnL RPool G n0 h v e xs) (hne : xs ≠ []) :
    ∃ p, v = .sl p 0 xs.length (.un 4) ∧ n0 ≤ p ∧ h.at p = some (.cells (psC xs) e) := by
  obtain ⟨L, h1, h2⟩ := ho
  have hL : L.flatten = psC xs := by
    obtain ⟨e1, e2⟩ := h2
    have key : ∀ (L : List (List AV)) (xs : List PoolD), L.length = xs.length → (∀ (i : Nat) c x, L[i]? = some c → xs[i]? = some x → RPool.is (fun b => G b ∧ Apart v b) h c x) → L.flatten = psC xs := by
      intro L
      induction L with
      | nil => intro xs hl _; cases xs with | nil => rfl | cons => cases hl
      | cons a r ih =>
        intro xs hl hh
        cases xs with
        | nil => cases hl
        | cons x xs =>
          have i1 := ih xs (by simpa using hl) (fun i c y a b => hh (i + 1) c y (by simpa using a) (by simpa using b))
          obtain ⟨rfl, -⟩ := RPool_is.1 (hh 0 a x rfl rfl)
          rw [List.flatten_cons, i1]
          rfl
    exact key L xs e1 e2
  have e0 := h2.1
  rcases h1.2 with ⟨rfl, rfl⟩ | ⟨p, rfl, hp, hat⟩
  · exact absurd (List.eq_nil_of_length_eq_zero (by rw [← e0]; rfl)) hne
  · exact ⟨p, by rw [e0]; rfl, hp, by rw [hat, hL]⟩
def pgsOf (x : PoolD) : List PgD := (List.range (if 8 < x.pgs then 8 else x.pgs).toNat).map fun (s : Nat) => ⟨x.id, (s : Int)⟩
def outN (l : List PoolD) : Nat → List PgD
  | 0 => []
  | i + 1 => if 0 < i ∧ (l.getD (i - 1) pool0).id = (l.getD i pool0).id then outN l i else outN l i ++ pgsOf (l.getD i pool0)
def allC (m : MapD) : List PgD := outN (isoF m.pools) m.pools.length
theorem pgsOf_len (x : PoolD) : (pgsOf x).length ≤ 8 := by
  unfold pgsOf
  rw [List.length_map, List.length_range]
  split <;> omega
theorem outN_len (l : List PoolD) : ∀ i, (outN l i).length ≤ i * 8
  | 0 => Nat.le_refl 0
  | i + 1 => by
    have := outN_len l i
    unfold outN
    split
    · omega
    · rw [List.length_append]
      have := pgsOf_len (l.getD i pool0)
      omega
theorem bub_mem {x z : PoolD} : ∀ ru w, z ∈ bub x ru w ↔ z = x ∨ z ∈ ru ∨ z ∈ w
  | [], w => by simp [bub]
  | y :: ru, w => by
    unfold bub
    split
    · rw [bub_mem ru (y :: w)]
      simp only [List.mem_cons]
      constructor
      · rintro (h | h | h | h) <;> simp [h]
      · rintro (h | (h | h) | h) <;> simp [h]
    · simp only [List.mem_append, List.mem_reverse, List.mem_cons]
      constructor
      · rintro ((h | h) | h | h) <;> simp [h]
      · rintro (h | (h | h) | h) <;> simp [h]
theorem iso_mem {ps : List PoolD} {z : PoolD} : ∀ i, i ≤ ps.length → (z ∈ isoN ps i ↔ z ∈ ps)
  | 0, _ => Iff.rfl
  | i + 1, h => by
    have hl := iso_len ps i (by omega)
    rw [isoN]
    refine Iff.trans ?_ (iso_mem i (by omega))
    unfold stepP
    rw [bub_mem, List.mem_reverse]
    have h1 := List.take_append_drop i (isoN ps i)
    rw [List.drop_eq_getElem_cons (by omega)] at h1
    have h2 : (isoN ps i).getD i pool0 = (isoN ps i)[i] := by rw [List.getD_eq_getElem?_getD, List.getElem?_eq_getElem (by omega)]; rfl
    rw [h2]
    conv => rhs; rw [← h1]
    rw [List.mem_append, List.mem_cons]
    constructor
    · rintro (h | h | h) <;> simp [h]
    · rintro (h | h | h) <;> simp [h]
theorem ldL_pid {l : List PoolD} {i : Nat} (hi : i < l.length) : ldL (tabOf Try.prog NT0) 3 (psC l) (i * 4) = some (.lit (.int .i64 (l.getD i pool0).id)) := by
  have hA : isAggT (tabOf Try.prog NT0) 3 = some false := by kernel_rfl
  have hS : sizeT (tabOf Try.prog NT0) 3 = some 1 := by kernel_rfl
  unfold ldL
  rw [hA, hS]
  simp only
  have h1 : (psC l)[i * 4]? = ((psC l).drop (i * 4))[0]? := by rw [List.getElem?_drop, Nat.add_zero]
  rw [h1, psC_drop, List.drop_eq_getElem_cons hi, psC_cons]
  rw [List.getD_eq_getElem?_getD, List.getElem?_eq_getElem hi]
  rfl
theorem pools_i64 {F : Nat → Prop} {H : AH} {m : MapD} {vo vp vb : AV} (hm : MpAt F H m vo vp vb) : ∀ x ∈ m.pools, I64 x.id := fun x hx => by
  obtain ⟨i, hi, rfl⟩ := List.mem_iff_getElem.1 hx
  obtain ⟨c, hc1, _⟩ := hm.p.get (T := tabOf Try.prog NT0) (List.getElem?_eq_getElem hi)
  exact (RPool_is.1 hc1).2.1
theorem pgsOf_get {x : PoolD} {k : Nat} (hk : (k : Int) < (if 8 < x.pgs then 8 else x.pgs)) : (pgsOf x)[k]? = some ⟨x.id, (k : Int)⟩ := by
  unfold pgsOf
  rw [List.getElem?_map, List.getElem?_range (by omega)]
  rfl
theorem pgsOf_all {x : PoolD} {k : Nat} (hk : ¬ (k : Int) < (if 8 < x.pgs then 8 else x.pgs)) : (pgsOf x).take k = pgsOf x := by
  refine List.take_of_length_le ?_
  unfold pgsOf
  rw [List.length_map, List.length_range]
  omega
theorem all_x {F : Nat → Prop} {H : AH} {m : MapD} {vo vp vb : AV} (hm : MpAt F H m vo vp vb) (hpl : m.pools.length < 20) :
    WC Try.prog (tabOf Try.prog NT0) S0 47 [mpV m vo vp vb] H fun v h' => Ext H.n H h' ∧ IsSl RPg (fun b => H.n ≤ b) h' v (allC m) := by
  refine WC_fn Try.func47 rfl rfl ?_
  have o1 := hm.o.one
  have o2 := hm.p.one
  have o3 := hm.b.one
  have i2 := hm.p.isSl
  simp only [core, Nat.reduceAdd, Nat.reduceSub, Nat.reduceMul, Nat.reduceLT, Nat.reduceEqDiff, reduceCtorEq, Nat.reduceLeDiff, Int.reduceLE, Int.reduceLT, Int.reduceToNat, Try.ntmps47, mpV, o1, o2, o3]
  obtain ⟨h1, hh1⟩ : ∃ h1, h1 = H.push (.cells [.lit (.int .i64 m.epoch), vo, vp, vb, .lit (.int .i64 m.leaf)] 31) := ⟨_, rfl⟩
  have E1 : Ext H.n H h1 := hh1 ▸ (Ext.refl _ _).push _ (Nat.le_refl _)
  rw [← hh1]
  clear hh1
  obtain ⟨L, g1, g2, g3, g4⟩ := (hm.p.ext E1 (Nat.le_refl _)).out
  have hLl : L.length = m.pools.length := g4.1
  refine WOp_app ((OwnL.nil (R := RPool) (G := F) (n0 := h1.n) (h := h1) (e := 94)).append (ys := m.pools) (M := L) (by kernel_rfl) (by kernel_rfl) (by kernel_rfl) (zv := .agg [.lit (.int .i64 0), .lit (.int .i64 0), .lit (.int .i64 0), .lit (.int .i64 0)]) (by kernel_rfl) (by' := 32) (by kernel_rfl) rfl (by decide) (by decide) g1.src g1.len (g4.lift fun b hb _ => ⟨rfl, hb, fun _ _ _ h => by cases h⟩) (by simp; omega) (by simp; omega) (Nat.le_refl _)) ?_
  rintro s h2 ⟨ho2, e2, k2⟩
  rw [List.nil_append] at ho2
  have E2 := E1.trans (e2.mono E1.1)
  have t1 := ho2.one
  have t2 := ho2.isSl
  have t3 := ho2.lenD
  by_cases hne : m.pools = []
  · rw [hne] at t3
    simp only [core, Nat.reduceAdd, Nat.reduceSub, Nat.reduceMul, Nat.reduceLT, Nat.reduceEqDiff, reduceCtorEq, Nat.reduceLeDiff, Int.reduceLE, Int.reduceLT, Int.reduceToNat, t1]
    refine (sortZ_x t1 t2 t3).mono ?_
    rintro _ h3 ⟨rfl, rfl⟩
    simp only [core, Nat.reduceAdd, Nat.reduceSub, Nat.reduceMul, Nat.reduceLT, Nat.reduceEqDiff, reduceCtorEq, Nat.reduceLeDiff, Int.reduceLE, Int.reduceLT, Int.reduceToNat, t1, t2, t3]
    refine WB_ind (fun (_ : Unit) t h => h = h3 ∧ t.n = 49 ∧ t.get 4 = .lit (.slice none 0 0) ∧ t.get 14 = .lit (.int .i64 0) ∧ t.get 15 = .lit (.int .i64 0)) (fun _ => 0) ?_ () _ _ ?_
    · rintro _ t h ⟨rfl, hn, g4, g14, g15⟩ ih
      have hz : ((0 : Int) < 0) = False := by decide
      simp only [core, Nat.reduceAdd, Nat.reduceSub, Nat.reduceMul, Nat.reduceLT, Nat.reduceEqDiff, reduceCtorEq, Nat.reduceLeDiff, Int.reduceLE, Int.reduceLT, Int.reduceToNat, hn, g4, g14, g15, hz]
      refine ⟨E2, ?_⟩
      unfold allC
      rw [hne]
      exact IsSl.nil
    · simp only [core, Nat.reduceAdd, Nat.reduceSub, Nat.reduceMul, Nat.reduceLT, Nat.reduceEqDiff, reduceCtorEq, Nat.reduceLeDiff, Int.reduceLE, Int.reduceLT, Int.reduceToNat, List.length_nil]
      rfl
  obtain ⟨p, rfl, hp, P2⟩ := ho2.pools hne
  have h0 : 0 < m.pools.length := List.length_pos_iff.2 hne
  simp only [core, Nat.reduceAdd, Nat.reduceSub, Nat.reduceMul, Nat.reduceLT, Nat.reduceEqDiff, reduceCtorEq, Nat.reduceLeDiff, Int.reduceLE, Int.reduceLT, Int.reduceToNat]
  refine (sortP_x P2 h0 hpl).mono ?_
  rintro _ h3 ⟨rfl, e3, P3⟩
  obtain ⟨l, hl⟩ : ∃ l, l = isoF m.pools := ⟨_, rfl⟩
  have hll : l.length = m.pools.length := by rw [hl]; exact iso_len _ _ (Nat.le_refl _)
  have hlm : ∀ x ∈ l, I64 x.id := fun x hx => pools_i64 hm x ((iso_mem m.pools.length (Nat.le_refl _)).1 (by rw [hl] at hx; exact hx))
  rw [← hl] at P3
  have E3 : Ext H.n H h3 := E2.trans (e3.mono (by have := E1.1; omega))
  have lp3 := at_lt P3
  have s1 : Ex.isSl (.sl p 0 m.pools.length (.un 4)) = true := rfl
  have s2 : Ex.lenD (.sl p 0 m.pools.length (.un 4)) = m.pools.length := rfl
  have s3 : Ex.slB (.sl p 0 m.pools.length (.un 4)) = p := rfl
  have s4 : Ex.slO (.sl p 0 m.pools.length (.un 4)) = 0 := rfl
  simp only [core, Nat.reduceAdd, Nat.reduceSub, Nat.reduceMul, Nat.reduceLT, Nat.reduceEqDiff, reduceCtorEq, Nat.reduceLeDiff, Int.reduceLE, Int.reduceLT, Int.reduceToNat, s1, s2]
  refine WB_for m.pools.length (fun i t h => ∃ o, OwnL RPg (fun _ => False) h3.n h o 56 (outN l i) ∧ Ext h3.n h3 h ∧ t.n = 49 ∧ t.get 3 = .sl p 0 m.pools.length (.un 4) ∧ t.get 4 = o ∧ t.get 13 = .sl p 0 m.pools.length (.un 4) ∧ t.get 14 = .lit (.int .i64 m.pools.length) ∧ t.get 15 = .lit (.int .i64 i)) ?_ ?_ _ _ ?_
  · rintro i t h hlt hc ⟨o, ho, he, hn, g3, g4, g13, g14, g15⟩ ih
    have hws := wrap_succ hlt (by omega)
    have P := (he.2 _ lp3).trans P3
    have lp := at_lt P
    have hld : loadA (tabOf Try.prog NT0) h 94 p (i * 4) = some (.agg (pC (l.getD i pool0))) := by rw [ld_own P, ldL_pool (by omega)]
    obtain ⟨x, hx⟩ : ∃ x, x = l.getD i pool0 := ⟨_, rfl⟩
    have hxm : x ∈ l := by rw [hx]; exact List.mem_of_getElem? (by rw [List.getD_eq_getElem?_getD, List.getElem?_eq_getElem (by omega)]; rfl)
    have hxi := hlm x hxm
    rw [← hx] at hld
    unfold pC at hld
    obtain ⟨hA, hhA⟩ : ∃ hA, hA = h.push (.cells [.lit (.int .i64 x.id), .lit (.int .i64 x.size), .lit (.int .i64 x.min), .lit (.int .i64 x.pgs)] 94) := ⟨_, rfl⟩
    have eA : Ext h.n h hA := hhA ▸ (Ext.refl _ _).push _ (Nat.le_refl _)
    have BA : hA.at h.n = some (.cells [.lit (.int .i64 x.id), .lit (.int .i64 x.size), .lit (.int .i64 x.min), .lit (.int .i64 x.pgs)] 94) := hhA ▸ at_push_n _ _
    have PA := (eA.2 _ lp).trans P
    have lA := at_lt PA
    have lB := at_lt BA
    have LB := ld_at (T := tabOf Try.prog NT0) BA
    have ho1 := ho.ext eA (Nat.le_refl _)
    have he1 := he.step eA
    simp only [core, Nat.reduceAdd, Nat.reduceSub, Nat.reduceMul, Nat.reduceLT, Nat.reduceEqDiff, reduceCtorEq, Nat.reduceLeDiff, Int.reduceLE, Int.reduceLT, Int.reduceToNat, hn, g3, g4, g13, g14, g15, hc, hlt, hld, s1, s2, s3, s4]
    rw [← hhA]
    clear hhA
    by_cases hcut : 0 < i ∧ (l.getD (i - 1) pool0).id = x.id
    · obtain ⟨hi0', hq⟩ := hcut
      obtain ⟨j, rfl⟩ : ∃ j, i = j + 1 := ⟨i - 1, by omega⟩
      have hi0 : (0 : Int) < ((j + 1 : Nat) : Int) := by omega
      have hw1 : IntKind.i64.wrap (((j + 1 : Nat) : Int) - 1) = ((j : Nat) : Int) := (wrap_in (by omega) (by omega)).trans (by omega)
      have hj : j < m.pools.length := by omega
      rw [Nat.add_sub_cancel] at hq
      have hlj : loadA (tabOf Try.prog NT0) hA 3 p (j * 4) = some (.lit (.int .i64 (l.getD j pool0).id)) := by rw [ld_own PA, ldL_pid (by omega)]
      have hO : outN l (j + 1 + 1) = outN l (j + 1) := by
        rw [outN, if_pos ⟨by omega, by rw [Nat.add_sub_cancel, ← hx]; exact hq⟩]
      have hb : ((l.getD j pool0).id == x.id) = true := by rw [hq]; exact beq_self_eq_true _
      rw [WB_regionD [0, 1, 2, 3, 4, 5, 6, 7, 8, 9, 10, 11, 12] 374075900823516023695234415374914902183939638566912 (by kernel_rfl)]
      repeat ((with_reducible refine WDM_cons ?_; simp only [dw1]; try simp only [dw2, Nat.reduceAdd, Nat.reduceMul, Nat.reduceShiftRight, Nat.reduceMod, Nat.reduceEqDiff]); simp only [core, Nat.reduceAdd, Nat.reduceSub, Nat.reduceMul, Nat.reduceLT, Nat.reduceEqDiff, reduceCtorEq, Nat.reduceLeDiff, Int.reduceLE, Int.reduceLT, Int.reduceToNat, cored, hn, g3, g4, g13, g14, g15, hi0, hw1, hj, hlj, LB, lB, lA, hb, hws, s1, s2, s3, s4])
      refine ih _ _ ⟨o, by rw [hO]; exact ho1, he1, ?_⟩
      simp only [core, Nat.reduceAdd, Nat.reduceSub, Nat.reduceMul, Nat.reduceLT, Nat.reduceEqDiff, reduceCtorEq, Nat.reduceLeDiff, Int.reduceLE, Int.reduceLT, Int.reduceToNat, hn, g3, g4, g13, g14, g15]
    have hO : outN l (i + 1) = outN l i ++ pgsOf x := by rw [outN, if_neg (by rw [← hx]; exact hcut), ← hx]
    refine WB_cut (fun t h' => h' = hA ∧ t.n = 49 ∧ t.get 3 = .sl p 0 m.pools.length (.un 4) ∧ t.get 4 = o ∧ t.get 6 = .ptr h.n 0 ∧ t.get 13 = .sl p 0 m.pools.length (.un 4) ∧ t.get 14 = .lit (.int .i64 m.pools.length) ∧ t.get 15 = .lit (.int .i64 i) ∧ t.get 32 = .lit (.bool false)) (fun k' K' hk => ?_) ?_
    · rw [WB_regionD [0, 1, 2, 3, 4, 5, 6, 7, 8, 9, 10, 11, 12] 374075900823516023695234415374914902183939638566912 (by kernel_rfl)]
      by_cases hi0 : (0 : Int) < (i : Int)
      · obtain ⟨j, rfl⟩ : ∃ j, i = j + 1 := ⟨i - 1, by omega⟩
        have hw1 : IntKind.i64.wrap (((j + 1 : Nat) : Int) - 1) = ((j : Nat) : Int) := (wrap_in (by omega) (by omega)).trans (by omega)
        have hj : j < m.pools.length := by omega
        rw [Nat.add_sub_cancel] at hcut
        have hlj : loadA (tabOf Try.prog NT0) hA 3 p (j * 4) = some (.lit (.int .i64 (l.getD j pool0).id)) := by rw [ld_own PA, ldL_pid (by omega)]
        have hb : ((l.getD j pool0).id == x.id) = false := by
          rw [beq_eq_false_iff_ne]
          exact fun hh => hcut ⟨by omega, hh⟩
        repeat ((with_reducible refine WDM_cons ?_; simp only [dw1]; try simp only [dw2, Nat.reduceAdd, Nat.reduceMul, Nat.reduceShiftRight, Nat.reduceMod, Nat.reduceEqDiff]); simp only [core, Nat.reduceAdd, Nat.reduceSub, Nat.reduceMul, Nat.reduceLT, Nat.reduceEqDiff, reduceCtorEq, Nat.reduceLeDiff, Int.reduceLE, Int.reduceLT, Int.reduceToNat, cored, hn, g3, g4, g13, g14, g15, hi0, hw1, hj, hlj, LB, lB, lA, hb, s1, s2, s3, s4])
        refine hk _ _ ⟨rfl, ?_⟩
        simp only [core, Nat.reduceAdd, Nat.reduceSub, Nat.reduceMul, Nat.reduceLT, Nat.reduceEqDiff, reduceCtorEq, Nat.reduceLeDiff, Int.reduceLE, Int.reduceLT, Int.reduceToNat, hn, g3, g4, g13, g14, g15]
      · repeat ((with_reducible refine WDM_cons ?_; simp only [dw1]; try simp only [dw2, Nat.reduceAdd, Nat.reduceMul, Nat.reduceShiftRight, Nat.reduceMod, Nat.reduceEqDiff]); simp only [core, Nat.reduceAdd, Nat.reduceSub, Nat.reduceMul, Nat.reduceLT, Nat.reduceEqDiff, reduceCtorEq, Nat.reduceLeDiff, Int.reduceLE, Int.reduceLT, Int.reduceToNat, cored, hn, g3, g4, g13, g14, g15, hi0, LB, lB, lA, s1, s2, s3, s4])
        refine hk _ _ ⟨rfl, ?_⟩
        simp only [core, Nat.reduceAdd, Nat.reduceSub, Nat.reduceMul, Nat.reduceLT, Nat.reduceEqDiff, reduceCtorEq, Nat.reduceLeDiff, Int.reduceLE, Int.reduceLT, Int.reduceToNat, hn, g3, g4, g13, g14, g15]
    rintro t _ ⟨rfl, hn, g3, g4, g6, g13, g14, g15, g32⟩
    obtain ⟨cn, hcn⟩ : ∃ cn : Int, cn = if 8 < x.pgs then 8 else x.pgs := ⟨_, rfl⟩
    have hcn8 : cn ≤ 8 := by rw [hcn]; split <;> omega
    simp only [core, Nat.reduceAdd, Nat.reduceSub, Nat.reduceMul, Nat.reduceLT, Nat.reduceEqDiff, reduceCtorEq, Nat.reduceLeDiff, Int.reduceLE, Int.reduceLT, Int.reduceToNat, hn, g3, g4, g6, g13, g14, g15, g32, LB, lB]
    rw [← hcn]
    have hol := outN_len l i
    refine WB_ind (fun (k : Nat) t h' => ∃ o', OwnL RPg (fun _ => False) h3.n h' o' 56 (outN l i ++ (pgsOf x).take k) ∧ Ext h3.n h3 h' ∧ Apart o' h.n ∧ h'.at h.n = some (.cells [.lit (.int .i64 x.id), .lit (.int .i64 x.size), .lit (.int .i64 x.min), .lit (.int .i64 x.pgs)] 94) ∧ k ≤ 8 ∧ t.n = 49 ∧ t.get 3 = .sl p 0 m.pools.length (.un 4) ∧ t.get 4 = o' ∧ t.get 6 = .ptr h.n 0 ∧ t.get 13 = .sl p 0 m.pools.length (.un 4) ∧ t.get 14 = .lit (.int .i64 m.pools.length) ∧ t.get 15 = .lit (.int .i64 i) ∧ t.get 35 = .lit (.int .i64 cn) ∧ t.get 36 = .lit (.int .i64 k)) (fun k => 8 - k) ?_ 0 _ _ ?_
    · rintro k t h' ⟨o', ho', he', hap, B', hk8, hn, g3, g4, g6, g13, g14, g15, g35, g36⟩ ih2
      have LB' := ld_at (T := tabOf Try.prog NT0) B'
      have lB' := at_lt B'
      by_cases hk : (k : Int) < cn
      · have hwk : IntKind.i64.wrap ((k : Int) + 1) = ((k + 1 : Nat) : Int) := wrap_succ (n := 60) (by omega) (by omega)
        have hpg := pgsOf_get (x := x) (k := k) (by rw [← hcn]; exact hk)
        simp only [core, Nat.reduceAdd, Nat.reduceSub, Nat.reduceMul, Nat.reduceLT, Nat.reduceEqDiff, reduceCtorEq, Nat.reduceLeDiff, Int.reduceLE, Int.reduceLT, Int.reduceToNat, hn, g3, g4, g6, g13, g14, g15, g35, g36, hk, LB', lB']
        obtain ⟨h5, hh5⟩ : ∃ h5, h5 = h'.push (.cells [.lit (.int .i64 x.id), .lit (.int .i64 k)] 56) := ⟨_, rfl⟩
        have e5 : Ext h'.n h' h5 := hh5 ▸ (Ext.refl _ _).push _ (Nat.le_refl _)
        have A5 : h5.at h'.n = some (.cells [.lit (.int .i64 x.id), .lit (.int .i64 k)] 56) := hh5 ▸ at_push_n _ _
        rw [← hh5]
        have q1 := he'.1
        have q2 := e5.1
        have htl : (outN l i ++ (pgsOf x).take k).length ≤ 200 := by rw [List.length_append, List.length_take]; omega
        refine WOp_app ((ho'.ext e5 (Nat.le_refl _)).snoc (by kernel_rfl) (by kernel_rfl) (by kernel_rfl) (zv := .agg [.lit (.int .i64 0), .lit (.int .i64 0)]) (by kernel_rfl) (by' := 16) (by kernel_rfl) rfl (by decide) (by decide) A5 (y := ⟨x.id, (k : Int)⟩) (RPg_is.2 ⟨rfl, hxi, (by show -9223372036854775808 ≤ (k : Int) ∧ (k : Int) < 9223372036854775808; omega)⟩) (by omega) (by omega) (by omega)) ?_
        rintro s9 h9 ⟨ho9, e9, k9⟩
        obtain ⟨k10, k11⟩ := k9 h.n (by omega) hap
        have t9 := ho9.one
        simp only [core, Nat.reduceAdd, Nat.reduceSub, Nat.reduceMul, Nat.reduceLT, Nat.reduceEqDiff, reduceCtorEq, Nat.reduceLeDiff, Int.reduceLE, Int.reduceLT, Int.reduceToNat, hn, g3, g4, g6, g13, g14, g15, g35, g36, t9, hwk]
        refine ih2 (k + 1) _ _ ⟨s9, ?_, (he'.step e5).trans e9, k11, k10.trans ((e5.2 _ lB').trans B'), by omega, ?_⟩ (by omega)
        · rw [List.take_add_one, hpg, ← List.append_assoc]
          exact ho9
        · simp only [core, Nat.reduceAdd, Nat.reduceSub, Nat.reduceMul, Nat.reduceLT, Nat.reduceEqDiff, reduceCtorEq, Nat.reduceLeDiff, Int.reduceLE, Int.reduceLT, Int.reduceToNat, hn, g3, g4, g6, g13, g14, g15, g35, g36]
      · have hk' : ((k : Int) < cn) = False := by simp only [eq_iff_iff, iff_false]; exact hk
        rw [pgsOf_all (by rw [← hcn]; exact hk)] at ho'
        simp only [core, Nat.reduceAdd, Nat.reduceSub, Nat.reduceMul, Nat.reduceLT, Nat.reduceEqDiff, reduceCtorEq, Nat.reduceLeDiff, Int.reduceLE, Int.reduceLT, Int.reduceToNat, hn, g3, g4, g6, g13, g14, g15, g35, g36, hk', hws]
        refine ih _ _ ⟨o', by rw [hO]; exact ho', he', ?_⟩
        simp only [core, Nat.reduceAdd, Nat.reduceSub, Nat.reduceMul, Nat.reduceLT, Nat.reduceEqDiff, reduceCtorEq, Nat.reduceLeDiff, Int.reduceLE, Int.reduceLT, Int.reduceToNat, hn, g3, g4, g6, g13, g14, g15, g35, g36]
    · refine ⟨o, ?_, he1, ho.apart (Nat.le_refl _), BA, by omega, ?_⟩
      · rw [List.take_zero, List.append_nil]; exact ho1
      · simp only [core, Nat.reduceAdd, Nat.reduceSub, Nat.reduceMul, Nat.reduceLT, Nat.reduceEqDiff, reduceCtorEq, Nat.reduceLeDiff, Int.reduceLE, Int.reduceLT, Int.reduceToNat, hn, g3, g4, g6, g13, g14, g15, g32]
        rfl
  · rintro t h hc ⟨o, ho, he, hn, g3, g4, g13, g14, g15⟩
    have t9 := ho.one
    simp only [core, Nat.reduceAdd, Nat.reduceSub, Nat.reduceMul, Nat.reduceLT, Nat.reduceEqDiff, reduceCtorEq, Nat.reduceLeDiff, Int.reduceLE, Int.reduceLT, Int.reduceToNat, hn, g3, g4, g13, g14, g15, hc, t9]
    refine ⟨E3.trans (he.mono E3.1), ?_⟩
    unfold allC
    rw [← hl]
    exact ho.toSl (fun _ hf => hf.elim) (fun b hb => by have := E3.1; omega)
  · simp only [core, Nat.reduceAdd, Nat.reduceSub, Nat.reduceMul, Nat.reduceLT, Nat.reduceEqDiff, reduceCtorEq, Nat.reduceLeDiff, Int.reduceLE, Int.reduceLT, Int.reduceToNat]
    exact ⟨_, OwnL.nil, Ext.refl _ _, rfl, rfl⟩
def ofC (m : MapD) (l : List PgD) (osd : Int) : List PgD := l.filter fun g => (actF m g.pool g.seed).contains osd
theorem allC_len (m : MapD) : (allC m).length ≤ m.pools.length * 8 := outN_len _ _
theorem of_x {F : Nat → Prop} {H : AH} {m : MapD} {vo vp vb : AV} (osd : Int) (hm : MpAt F H m vo vp vb) (hok : OkM m) (hlo : Sm 40 m.osds) (hpo : Sm 32 m.pools) (hpl : m.pools.length < 20) :
    WC Try.prog (tabOf Try.prog NT0) S0 46 [mpV m vo vp vb, .lit (.int .i64 osd)] H fun v h' => Ext H.n H h' ∧ IsSl RPg (fun b => H.n ≤ b) h' v (ofC m (allC m) osd) := by
  refine WC_fn Try.func46 rfl rfl ?_
  have o1 := hm.o.one
  have o2 := hm.p.one
  have o3 := hm.b.one
  have i1 := hm.o.isSl
  have i2 := hm.p.isSl
  have i3 := hm.b.isSl
  simp only [core, Nat.reduceAdd, Nat.reduceSub, Nat.reduceMul, Nat.reduceLT, Nat.reduceEqDiff, reduceCtorEq, Nat.reduceLeDiff, Int.reduceLE, Int.reduceLT, Int.reduceToNat, Try.ntmps46, mpV, o1, o2, o3]
  obtain ⟨h1, hh1⟩ : ∃ h1, h1 = H.push (.cells [.lit (.int .i64 m.epoch), vo, vp, vb, .lit (.int .i64 m.leaf)] 31) := ⟨_, rfl⟩
  have E1 : Ext H.n H h1 := hh1 ▸ (Ext.refl _ _).push _ (Nat.le_refl _)
  have A1 : h1.at H.n = some (.cells [.lit (.int .i64 m.epoch), vo, vp, vb, .lit (.int .i64 m.leaf)] 31) := hh1 ▸ at_push_n _ _
  have la1 := at_lt A1
  rw [← hh1]
  clear hh1
  refine (all_x (hm.ext E1 (Nat.le_refl _)) hpl).mono ?_
  rintro v h2 ⟨e2, hv⟩
  have E2 := E1.step e2
  have A2 := (e2.2 _ la1).trans A1
  have la2 := at_lt A2
  have v1 := hv.isSl
  have v2 := hv.lenD
  have hlen := allC_len m
  simp only [core, Nat.reduceAdd, Nat.reduceSub, Nat.reduceMul, Nat.reduceLT, Nat.reduceEqDiff, reduceCtorEq, Nat.reduceLeDiff, Int.reduceLE, Int.reduceLT, Int.reduceToNat, v1, v2]
  refine WB_for (allC m).length (fun i t h => ∃ o, OwnL RPg (fun _ => False) h2.n h o 56 (ofC m ((allC m).take i) osd) ∧ Ext h2.n h2 h ∧ t.n = 26 ∧ t.get 1 = .lit (.int .i64 osd) ∧ t.get 2 = .ptr H.n 0 ∧ t.get 5 = o ∧ t.get 9 = v ∧ t.get 10 = .lit (.int .i64 (allC m).length) ∧ t.get 11 = .lit (.int .i64 i)) ?_ ?_ _ _ ?_
  · rintro i t h hlt hc ⟨o, ho, he, hn, g1, g2, g5, g9, g10, g11⟩ ih
    have E3 := E2.step he
    have A3 := (he.2 _ la2).trans A2
    have la3 := at_lt A3
    have LA3 := ld_at (T := tabOf Try.prog NT0) A3
    have hws := wrap_succ hlt (by omega)
    obtain ⟨g, hg⟩ : ∃ g, (allC m)[i]? = some g := ⟨_, List.getElem?_eq_getElem hlt⟩
    obtain ⟨c, hc1, hld, hld0⟩ := hv.atE (T := tabOf Try.prog NT0) he (show RPg.z = 2 from rfl) hg
    obtain ⟨rfl, I1, I2⟩ := RPg_is.1 hc1
    obtain ⟨hA, hhA⟩ : ∃ hA, hA = h.push (.cells [.lit (.int .i64 g.pool), .lit (.int .i64 g.seed)] 56) := ⟨_, rfl⟩
    have eA : Ext h.n h hA := hhA ▸ (Ext.refl _ _).push _ (Nat.le_refl _)
    have BA : hA.at h.n = some (.cells [.lit (.int .i64 g.pool), .lit (.int .i64 g.seed)] 56) := hhA ▸ at_push_n _ _
    have lB := at_lt BA
    have LB := ld_at (T := tabOf Try.prog NT0) BA
    have AA := (eA.2 _ la3).trans A3
    have lA := at_lt AA
    have LA := ld_at (T := tabOf Try.prog NT0) AA
    have EA := E3.step eA
    simp only [core, Nat.reduceAdd, Nat.reduceSub, Nat.reduceMul, Nat.reduceLT, Nat.reduceEqDiff, reduceCtorEq, Nat.reduceLeDiff, Int.reduceLE, Int.reduceLT, Int.reduceToNat, hn, g1, g2, g5, g9, g10, g11, hc, hlt, hld, hld0, v1, v2]
    rw [← hhA]
    clear hhA
    simp only [core, Nat.reduceAdd, Nat.reduceSub, Nat.reduceMul, Nat.reduceLT, Nat.reduceEqDiff, reduceCtorEq, Nat.reduceLeDiff, Int.reduceLE, Int.reduceLT, Int.reduceToNat, hn, g1, g2, g5, g9, g10, g11, LA, lA, LB, lB]
    refine (act_x g.pool g.seed (hm.ext EA (Nat.le_refl _)) hok hlo hpo).mono ?_
    rintro w h3 ⟨e3, hw⟩
    have B3 := (e3.2 _ lB).trans BA
    have lB3 := at_lt B3
    have LB3 := ld_at (T := tabOf Try.prog NT0) B3
    have hal := actF_len (m := m) (pool := g.pool) (seed := g.seed)
    have ho3 := (ho.ext eA (Nat.le_refl _)).ext e3 (Nat.le_refl _)
    have he3 := (he.step eA).step e3
    have q0 := he3.1
    have hF : ofC m ((allC m).take (i + 1)) osd = if (actF m g.pool g.seed).contains osd then ofC m ((allC m).take i) osd ++ [g] else ofC m ((allC m).take i) osd := by
      rw [List.take_add_one, hg]
      unfold ofC
      rw [List.filter_append, Option.toList_some, List.filter_cons, List.filter_nil]
      split
      · rfl
      · rw [List.append_nil]
    simp only [core, Nat.reduceAdd, Nat.reduceSub, Nat.reduceMul, Nat.reduceLT, Nat.reduceEqDiff, reduceCtorEq, Nat.reduceLeDiff, Int.reduceLE, Int.reduceLT, Int.reduceToNat, hn, g1, g2, g5, g9, g10, g11]
    refine (contains_x osd hw (by omega)).mono ?_
    rintro _ h4 ⟨rfl, rfl⟩
    by_cases hco : (actF m g.pool g.seed).contains osd = true
    · rw [if_pos hco] at hF
      simp only [core, Nat.reduceAdd, Nat.reduceSub, Nat.reduceMul, Nat.reduceLT, Nat.reduceEqDiff, reduceCtorEq, Nat.reduceLeDiff, Int.reduceLE, Int.reduceLT, Int.reduceToNat, hn, g1, g2, g5, g9, g10, g11, hco, LB3, lB3]
      obtain ⟨h5, hh5⟩ : ∃ h5, h5 = h4.push (.cells [.lit (.int .i64 g.pool), .lit (.int .i64 g.seed)] 56) := ⟨_, rfl⟩
      have e5 : Ext h4.n h4 h5 := hh5 ▸ (Ext.refl _ _).push _ (Nat.le_refl _)
      have A5 : h5.at h4.n = some (.cells [.lit (.int .i64 g.pool), .lit (.int .i64 g.seed)] 56) := hh5 ▸ at_push_n _ _
      rw [← hh5]
      have q2 := e5.1
      have htl : (ofC m ((allC m).take i) osd).length ≤ i := by
        have := List.length_filter_le (fun g => (actF m g.pool g.seed).contains osd) ((allC m).take i)
        rw [List.length_take] at this
        unfold ofC
        omega
      refine WOp_app ((ho3.ext e5 (Nat.le_refl _)).snoc (by kernel_rfl) (by kernel_rfl) (by kernel_rfl) (zv := .agg [.lit (.int .i64 0), .lit (.int .i64 0)]) (by kernel_rfl) (by' := 16) (by kernel_rfl) rfl (by decide) (by decide) A5 (y := g) (RPg_is.2 ⟨rfl, I1, I2⟩) (by omega) (by omega) (by omega)) ?_
      rintro s9 h9 ⟨ho9, e9, k9⟩
      have t9 := ho9.one
      simp only [core, Nat.reduceAdd, Nat.reduceSub, Nat.reduceMul, Nat.reduceLT, Nat.reduceEqDiff, reduceCtorEq, Nat.reduceLeDiff, Int.reduceLE, Int.reduceLT, Int.reduceToNat, hn, g1, g2, g5, g9, g10, g11, t9, hws]
      refine ih _ _ ⟨s9, by rw [hF]; exact ho9, (he3.step e5).trans e9, ?_⟩
      simp only [core, Nat.reduceAdd, Nat.reduceSub, Nat.reduceMul, Nat.reduceLT, Nat.reduceEqDiff, reduceCtorEq, Nat.reduceLeDiff, Int.reduceLE, Int.reduceLT, Int.reduceToNat, hn, g1, g2, g5, g9, g10, g11]
    · rw [if_neg hco] at hF
      have hco : (actF m g.pool g.seed).contains osd = false := by simpa using hco
      simp only [core, Nat.reduceAdd, Nat.reduceSub, Nat.reduceMul, Nat.reduceLT, Nat.reduceEqDiff, reduceCtorEq, Nat.reduceLeDiff, Int.reduceLE, Int.reduceLT, Int.reduceToNat, hn, g1, g2, g5, g9, g10, g11, hco, hws]
      refine ih _ _ ⟨o, by rw [hF]; exact ho3, he3, ?_⟩
      simp only [core, Nat.reduceAdd, Nat.reduceSub, Nat.reduceMul, Nat.reduceLT, Nat.reduceEqDiff, reduceCtorEq, Nat.reduceLeDiff, Int.reduceLE, Int.reduceLT, Int.reduceToNat, hn, g1, g2, g5, g9, g10, g11]
  · rintro t h hc ⟨o, ho, he, hn, g1, g2, g5, g9, g10, g11⟩
    have t9 := ho.one
    rw [List.take_length] at ho
    simp only [core, Nat.reduceAdd, Nat.reduceSub, Nat.reduceMul, Nat.reduceLT, Nat.reduceEqDiff, reduceCtorEq, Nat.reduceLeDiff, Int.reduceLE, Int.reduceLT, Int.reduceToNat, hn, g1, g2, g5, g9, g10, g11, hc, t9]
    refine ⟨E2.step he, ?_⟩
    exact ho.toSl (fun _ hf => hf.elim) (fun b hb => by have := E2.1; omega)
  · simp only [core, Nat.reduceAdd, Nat.reduceSub, Nat.reduceMul, Nat.reduceLT, Nat.reduceEqDiff, reduceCtorEq, Nat.reduceLeDiff, Int.reduceLE, Int.reduceLT, Int.reduceToNat]
    exact ⟨_, OwnL.nil, Ext.refl _ _, rfl, rfl⟩
end Go.Proofs.Ytkgbeihcepociaa.Ex
end

section

set_option linter.unusedSimpArgs false
set_option linter.unusedVariables false
set_option maxRecDepth 10000
namespace Go.Proofs.Ytkgbeihcepociaa.Ex
open Go
variable {P : Program}
theorem pur_bind {α β : Type} (s : Sem α) (f : α → Sem β) : pur P (s >>= f) = match pur P s with
    | some (.ok a) => pur P (f a)
    | some (.pan v) => some (.pan v)
    | none => none := by
  induction s with
  | pure a => rfl
  | program k ih => exact ih P
  | mark m k ih => exact ih
  | halt o => cases o <;> rfl
  | _ => rfl
theorem pur_program : pur P program = some (.ok P) := rfl
theorem pur_pure {α : Type} (a : α) : pur P (pure a) = some (.ok a) := rfl
theorem pur_ite {α : Type} {c : Prop} [Decidable c] (a b : Sem α) : pur P (if c then a else b) = if c then pur P a else pur P b := by split <;> rfl
theorem pur_und {t : TypeId} {d : TypeDesc} (h : P.underlying t = some d) : pur P (underlying t) = some (.ok d) := by
  show pur P (match P.underlying t with | some d => pure d | none => stuck "no such type") = _
  rw [h]
  rfl
theorem pur_equalIn_struct (d : Nat) (t : TypeId) (xs ys : Array Value) (ht : P.underlying t = some (.struct (P.fieldsOf t))) (hp : P.stoodInHeld t = false) : pur P (Op.equalIn (d + 1) t (.agg xs) (.agg ys)) = pur P (Op.eqFields d xs ys (P.fieldsOf t).toList) := by
  simp only [Op.equalIn, pur_bind, pur_und ht, pur_program, hp, Bool.false_eq_true, if_false]
  rw [← Array.forIn_toList]
  generalize (P.fieldsOf t).toList = fs
  clear ht
  induction fs with
  | nil => simp [Op.eqFields, pur_pure]
  | cons f fs ih =>
    simp only [List.forIn_cons, Op.eqFields, pur_bind, pur_ite]
    by_cases hn : f.name ≠ "_"
    · simp only [if_pos hn]
      cases pur P (part f.type xs f.offset) with
      | none => rfl
      | some r1 =>
        cases r1 with
        | pan v => rfl
        | ok a =>
          simp only
          cases pur P (part f.type ys f.offset) with
          | none => rfl
          | some r2 =>
            cases r2 with
            | pan v => rfl
            | ok b =>
              simp only
              cases pur P (Op.equalIn d f.type a b) with
              | none => rfl
              | some r3 =>
                cases r3 with
                | pan v => rfl
                | ok r =>
                  cases r
                  · simp [pur_pure]
                  · simp only [Bool.not_true, Bool.false_eq_true, if_false, pur_pure]
                    exact ih
    · simp only [if_neg hn, pur_pure]
      exact ih
theorem pur_equalIn_int (d : Nat) (t : TypeId) (k k' : IntKind) (a b : Int) (h : P.underlying t = some (.int k')) : pur P (Op.equalIn (d + 1) t (.int k a) (.int k b)) = some (.ok (a == b)) := by
  simp only [Op.equalIn, pur_bind, pur_und h]
  simp [pur_pure]
theorem pur_eq_pg (a b c e : Int) : pur Try.prog (Op.equal 56 (.agg #[.int .i64 a, .int .i64 b]) (.agg #[.int .i64 c, .int .i64 e])) = some (.ok ((a == c) && (b == e))) := by
  show pur Try.prog (Op.equalIn (9999 + 1) 56 (.agg #[.int .i64 a, .int .i64 b]) (.agg #[.int .i64 c, .int .i64 e])) = _
  rw [pur_equalIn_struct 9999 56 _ _ (by kernel_rfl) (by kernel_rfl)]
  obtain ⟨f0, f1, hf, n0, n1, t0, t1, z0, z1⟩ : ∃ f0 f1 : Field, (Try.prog.fieldsOf 56).toList = [f0, f1] ∧ f0.name ≠ "_" ∧ f1.name ≠ "_" ∧ f0.type = 3 ∧ f1.type = 3 ∧ f0.offset = 0 ∧ f1.offset = 1 := by
    unfold Program.fieldsOf
    rw [Try.underlying56]
    exact ⟨_, _, rfl, by decide, by decide, rfl, rfl, rfl, rfl⟩
  rw [hf]
  have p0 : ∀ x y : Int, pur Try.prog (part 3 #[.int .i64 x, .int .i64 y] 0) = some (.ok (.int .i64 x)) := fun x y => by kernel_rfl
  have p1 : ∀ x y : Int, pur Try.prog (part 3 #[.int .i64 x, .int .i64 y] 1) = some (.ok (.int .i64 y)) := fun x y => by kernel_rfl
  have q : ∀ x y : Int, pur Try.prog (Op.equalIn 9999 3 (.int .i64 x) (.int .i64 y)) = some (.ok (x == y)) := fun x y => pur_equalIn_int 9998 3 .i64 .i64 x y Try.underlying3
  simp only [Op.eqFields, n0, n1, t0, t1, z0, z1, ne_eq, not_false_eq_true, if_true, pur_bind, p0, p1, q, pur_ite, pur_pure]
  cases (a == c) <;> cases (b == e) <;> rfl
variable {d : Option Tmp} {ty : TypeId} {ps : String} {af : Array Edge} {g : Option (Nat × Bool)} {f : TypeId} {t : TM} {h : AH}
theorem a_nepg {i j : Nat} {a b c e : Int} (hi : t.get i = .agg [.lit (.int .i64 a), .lit (.int .i64 b)]) (hj : t.get j = .agg [.lit (.int .i64 c), .lit (.int .i64 e)]) :
    aBin Try.prog (tabOf Try.prog NT0) ⟨d, .binOp .neq 56 (.tmp i) (.tmp j) f, ty, ps, af, g⟩ t h .neq 56 (.tmp i) (.tmp j) = some (.val (.lit (.bool (!((a == c) && (b == e))))), h) := by
  have e1 : evalA t (.tmp i) = some (.agg [.lit (.int .i64 a), .lit (.int .i64 b)]) := by rw [ev_tmp, hi]
  have e2 : evalA t (.tmp j) = some (.agg [.lit (.int .i64 c), .lit (.int .i64 e)]) := by rw [ev_tmp, hj]
  have l1 : litEnv t (.tmp i) = .agg #[.int .i64 a, .int .i64 b] := by unfold litEnv; rw [e1]; rfl
  have l2 : litEnv t (.tmp j) = .agg #[.int .i64 c, .int .i64 e] := by unfold litEnv; rw [e2]; rfl
  have hl : litOp Try.prog ⟨d, .binOp .neq 56 (.tmp i) (.tmp j) f, ty, ps, af, g⟩ t = some (.val (.lit (.bool (!((a == c) && (b == e)))))) := by
    unfold litOp
    rw [if_pos (by
      show (notSelect _ && litAll t [.tmp i, .tmp j]) = true
      simp only [litAll, e1, e2]
      rfl)]
    have : pur Try.prog (execOp (litEnv t) ⟨d, .binOp .neq 56 (.tmp i) (.tmp j) f, ty, ps, af, g⟩) = some (.ok (.value (.bool (!((a == c) && (b == e)))))) := by
      show pur Try.prog (do pure (Next.value (← (do eqGuard .neq 56 (.tmp i) (.tmp j) (litEnv t (.tmp i)) (litEnv t (.tmp j)); binOp .neq 56 (litEnv t (.tmp i)) (litEnv t (.tmp j)))))) = _
      rw [l1, l2]
      have hg : pur Try.prog (eqGuard .neq 56 (.tmp i) (.tmp j) (.agg #[.int .i64 a, .int .i64 b]) (.agg #[.int .i64 c, .int .i64 e])) = some (.ok ()) := by
        have hm : Try.prog.eqGuardType Try.prog.depth 56 = false := by kernel_rfl
        simp [eqGuard, pur_bind, pur_program, hm, pur_pure]
      have hb : pur Try.prog (binOp .neq 56 (.agg #[.int .i64 a, .int .i64 b]) (.agg #[.int .i64 c, .int .i64 e])) = some (.ok (.bool (!((a == c) && (b == e))))) := by
        show pur Try.prog (do pure (Value.bool (!(← Op.equal 56 (.agg #[.int .i64 a, .int .i64 b]) (.agg #[.int .i64 c, .int .i64 e]))))) = _
        simp only [pur_bind, pur_eq_pg, pur_pure]
      simp only [pur_bind, hg, hb, pur_pure]
    rw [this]
    rfl
  unfold aBin
  rw [e1, e2]
  show orLit _ _ _ _ _ = _
  unfold orLit
  rw [hl]
/-! The same as rules for the simplifier. -/
def aBinQ (P : Program) (T : TT) (o : Oper) (t : TM) (h : AH) (op : BinOp) (e : TypeId) (x y : Operand) : AR := aBinR P T o t h op e x y
def neM (h : AH) (r : AR) : AV → AV → AR
  | .agg [.lit (.int .i64 a), .lit (.int .i64 b)], .agg [.lit (.int .i64 c), .lit (.int .i64 e)] => some (.val (.lit (.bool (!((a == c) && (b == e))))), h)
  | _, _ => r
theorem neM_eq {r : AR} {a b c e : Int} : neM h r (.agg [.lit (.int .i64 a), .lit (.int .i64 b)]) (.agg [.lit (.int .i64 c), .lit (.int .i64 e)]) = some (.val (.lit (.bool (!((a == c) && (b == e))))), h) := rfl
theorem a_neM {i j : Nat} : aBinR Try.prog (tabOf Try.prog NT0) ⟨d, .binOp .neq 56 (.tmp i) (.tmp j) f, ty, ps, af, g⟩ t h .neq 56 (.tmp i) (.tmp j) = neM h (aBinQ Try.prog (tabOf Try.prog NT0) ⟨d, .binOp .neq 56 (.tmp i) (.tmp j) f, ty, ps, af, g⟩ t h .neq 56 (.tmp i) (.tmp j)) (t.get i) (t.get j) := by
  unfold neM
  split
  · rename_i h1 h2
    exact a_nepg h1 h2
  · rfl
end Go.Proofs.Ytkgbeihcepociaa.Ex
end

section

set_option linter.unusedSimpArgs false
set_option linter.unusedVariables false
namespace Go.Proofs.Ytkgbeihcepociaa.Ex
open Go
structure SameT (m m' : MapD) : Prop where
  b : m'.buckets = m.buckets
  l : m'.leaf = m.leaf
section
variable {m m' : MapD} (h : SameT m m')
include h
end
end Go.Proofs.Ytkgbeihcepociaa.Ex
end

section

set_option linter.unusedSimpArgs false
set_option linter.unusedVariables false
set_option maxRecDepth 10000
set_option maxHeartbeats 4000000
namespace Go.Proofs.Ytkgbeihcepociaa.Ex
open Go
end Go.Proofs.Ytkgbeihcepociaa.Ex
end

section

set_option linter.unusedSimpArgs false
set_option linter.unusedVariables false
namespace Go.Proofs.Ytkgbeihcepociaa.Ex
open Go
/-- A row of cells. -/
def rowO (w : World) (r : Nat) : Option (List Value × TypeId) := match w.heap[r]? with
  | some (.cells cur e _) => some (cur.toList, e)
  | _ => none
theorem rowO_inv {w : World} {r : Nat} {l : List Value} {e : TypeId} (h : rowO w r = some (l, e)) : ∃ cur fz, w.heap[r]? = some (.cells cur e fz) ∧ l = cur.toList := by
  unfold rowO at h
  split at h
  · rename_i cur e' fz hh
    simp only [Option.some.injEq, Prod.mk.injEq] at h
    obtain ⟨rfl, rfl⟩ := h
    exact ⟨cur, fz, hh, rfl⟩
  · cases h
def winsAt (w : World) (r : Nat) : List (Nat × Nat) := match rowO w r with
  | some (l, _) => (List.range (l.length + 1)).map fun off => (r, off)
  | none => []
/-- All windows: a row from a place on. -/
def wins (w : World) : List (Nat × Nat) := (List.range w.heap.size).flatMap (winsAt w)
theorem mem_wins {w : World} {r off : Nat} : (r, off) ∈ wins w ↔ ∃ l e, rowO w r = some (l, e) ∧ off ≤ l.length := by
  unfold wins
  rw [List.mem_flatMap]
  constructor
  · rintro ⟨r', _, h⟩
    unfold winsAt at h
    split at h
    · rename_i l e hl
      obtain ⟨off', h1, h2⟩ := List.mem_map.1 h
      simp only [Prod.mk.injEq] at h2
      obtain ⟨rfl, rfl⟩ := h2
      rw [List.mem_range] at h1
      exact ⟨l, e, hl, by omega⟩
    · cases h
  · rintro ⟨l, e, hl, ho⟩
    refine ⟨r, ?_, ?_⟩
    · obtain ⟨cur, fz, hh, _⟩ := rowO_inv hl
      rw [List.mem_range]
      exact (Array.getElem?_eq_some_iff.1 hh).1
    · unfold winsAt
      rw [hl]
      exact List.mem_map.2 ⟨off, by rw [List.mem_range]; omega, rfl⟩
/-- A window's number. -/
def widx (w : World) (p : Nat × Nat) : Nat := (wins w).idxOf p + 1
def mu0 (w : World) : Mu := fun b => match b with
  | 0 => none
  | k + 1 => (wins w)[k]?
theorem mu0_widx {w : World} {p : Nat × Nat} (h : p ∈ wins w) : mu0 w (widx w p) = some p := by
  show (wins w)[(wins w).idxOf p]? = some p
  have hlt := List.idxOf_lt_length_of_mem h
  rw [List.getElem?_eq_getElem hlt, List.getElem_idxOf hlt]
instance (w : World) (p : Nat × Nat) : Decidable (p ∈ wins w) := inferInstance
def absV (w : World) : Value → AV
  | .pointer (some ⟨r, o, none⟩) => if (r, o) ∈ wins w then .ptr (widx w (r, o)) 0 else .any
  | .slice (some a) len cap => if len = 0 ∧ cap = 0 then .sl 0 0 0 (.kn 0) else match a with
    | ⟨r, o, none⟩ => if (r, o) ∈ wins w ∧ len ≤ cap ∧ cap ≤ maxLen then .sl (widx w (r, o)) 0 len (.kn cap) else .any
    | _ => .any
  | v => bif scal v then .lit v else .any
theorem absV_rel {ρ : Nat → Value} {w : World} {v : Value} (hv : v.oneCell' = true) : rel ρ (mu0 w) w (absV w v) v := by
  unfold absV
  split
  · rename_i r o
    split
    · rename_i hm
      unfold rel
      exact ⟨r, o, mu0_widx hm, rfl⟩
    · unfold rel; exact hv
  · rename_i a len cap
    split
    · rename_i h0
      obtain ⟨rfl, rfl⟩ := h0
      unfold rel
      exact .inr ⟨rfl, rfl, a, rfl⟩
    · split
      · rename_i r o
        split
        · rename_i hm
          unfold rel
          exact .inl ⟨r, o, o, cap, mu0_widx hm.1, rfl, .inr rfl, rfl, hm.2.1, hm.2.2⟩
        · unfold rel; exact hv
      · unfold rel; exact hv
  · cases hs : scal v with
    | false => simp only [cond_false]; unfold rel; exact hv
    | true => simp only [cond_true]; exact rel_lit hs
/-- A window's cells, as far as they are cells. -/
def absB (w : World) (p : Nat × Nat) : AB := match rowO w p.1 with
  | some (l, e) => .frz (((l.drop p.2).takeWhile (·.oneCell')).map (absV w)) e
  | none => .gone
def AH.ofList (l : List AB) : AH := l.foldl AH.push .nil
theorem L_foldl : ∀ (l : List AB) (h : AH), (l.foldl AH.push h).L = h.L ++ l
  | [], h => by simp
  | x :: r, h => by rw [List.foldl_cons, L_foldl r, L_push, List.append_assoc]; rfl
theorem L_ofList (l : List AB) : (AH.ofList l).L = l := by
  unfold AH.ofList
  rw [L_foldl]
  rfl
/-- The abstract heap of a world; block 0 is an empty row. -/
def absH (w : World) : AH := AH.ofList (.frz [] 0 :: (wins w).map (absB w))
theorem absH_L (w : World) : (absH w).L = .frz [] 0 :: (wins w).map (absB w) := L_ofList _
theorem absH_0 (w : World) : (absH w).at 0 = some (.frz [] 0) := by rw [← L_at, absH_L]; rfl
theorem absH_at {w : World} {p : Nat × Nat} (h : p ∈ wins w) : (absH w).at (widx w p) = some (absB w p) := by
  rw [← L_at, absH_L]
  have : (wins w)[(wins w).idxOf p]? = some p := mu0_widx h
  show ((wins w).map (absB w))[(wins w).idxOf p]? = _
  rw [List.getElem?_map, this]
  rfl
theorem absH_wr {w : World} {b : Nat} {ab : AB} (h : (absH w).L[b]? = some ab) : wr ab = false := by
  rw [absH_L] at h
  cases b with
  | zero => simp at h; subst h; rfl
  | succ k =>
    rw [List.getElem?_cons_succ, List.getElem?_map] at h
    obtain ⟨p, _, rfl⟩ := Option.map_eq_some_iff.1 h
    unfold absB
    split <;> rfl
theorem absH_nw (w : World) (b : Nat) (ab : AB) (h : (absH w).at b = some ab) : wr ab = false := absH_wr (by rw [L_at]; exact h)
theorem takeWhile_get {α : Type} {p : α → Bool} : ∀ {l : List α} {i : Nat} {x : α}, (l.takeWhile p)[i]? = some x → l[i]? = some x ∧ p x = true
  | [], i, x, h => by simp at h
  | a :: r, i, x, h => by
    rw [List.takeWhile_cons] at h
    cases ha : p a with
    | false => rw [ha] at h; simp at h
    | true =>
      rw [ha] at h
      cases i with
      | zero => simp at h; subst h; exact ⟨rfl, ha⟩
      | succ i => simp only [if_true, List.getElem?_cons_succ] at h ⊢; exact takeWhile_get h
theorem takeWhile_take {α : Type} {p : α → Bool} : ∀ {l : List α} {n : Nat}, (∀ x ∈ l.take n, p x = true) → (l.takeWhile p).take n = l.take n
  | [], n, _ => by simp
  | a :: r, 0, _ => by simp
  | a :: r, n + 1, h => by
    rw [List.takeWhile_cons, if_pos (h a (by simp)), List.take_succ_cons, List.take_succ_cons, takeWhile_take fun x hx => h x (by simp [hx])]
theorem absH_hr {P : Program} {ρ : Nat → Value} (w : World) : HR P ρ w.heap.size (mu0 w) (absH w) w := by
  refine ⟨Nat.le_refl _, fun b x hb => ?_, fun b r base ab hb hx => ?_, fun b b' r base base' ab ab' h1 h2 h3 h4 h5 h6 => ?_⟩
  · rw [absH_L]
    cases b with
    | zero => cases hb
    | succ k =>
      have : k < (wins w).length := (List.getElem?_eq_some_iff.1 (show (wins w)[k]? = some x from hb)).1
      simp only [List.length_cons, List.length_map]
      omega
  · cases b with
    | zero => cases hb
    | succ k =>
      have hk : (wins w)[k]? = some (r, base) := hb
      rw [absH_L, List.getElem?_cons_succ, List.getElem?_map, hk] at hx
      simp only [Option.map_some, Option.some.injEq] at hx
      obtain ⟨l, e, hl, ho⟩ := mem_wins.1 (List.mem_of_getElem? hk)
      obtain ⟨cur, fz, hh, rfl⟩ := rowO_inv hl
      unfold absB at hx
      rw [hl] at hx
      simp only at hx
      subst hx
      refine ⟨fun hw => (by cases hw), (Array.getElem?_eq_some_iff.1 hh).1, _, hh, cur, fz, rfl, ?_, fun i x hi => ?_⟩
      · have h1 := (List.takeWhile_prefix (l := cur.toList.drop base) (·.oneCell')).length_le
        rw [List.length_drop] at h1
        have e0 : cur.toList.length = cur.size := Array.length_toList
        rw [e0] at h1 ho
        rw [List.length_map]
        exact Nat.le_trans (Nat.add_le_add_left h1 base) (by omega)
      · rw [List.getElem?_map] at hi
        obtain ⟨v, hv, rfl⟩ := Option.map_eq_some_iff.1 hi
        obtain ⟨h1, h2⟩ := takeWhile_get hv
        rw [List.getElem?_drop, Array.getElem?_toList] at h1
        exact ⟨v, h1, absV_rel h2⟩
  · have := absH_wr h3
    rw [this] at h5
    cases h5
end Go.Proofs.Ytkgbeihcepociaa.Ex
end

section

set_option linter.unusedSimpArgs false
set_option linter.unusedVariables false
namespace Go.Proofs.Ytkgbeihcepociaa
open Go.RowKit Go.ChangeShapes Go.WideShapes Go.ChangeAt
open Go.ChangeMaps (open_string shut_string)
theorem own : ownKnob Try.prog.godebug = none := by kernel_rfl
theorem laidOut : laidOutB Try.prog = true := by kernel_rfl
section
variable {H : Type} {enc : TypeId × Value → H} {P : Program} {W W' : World}
theorem below_trodAll (hl : laidOutB P = true) (hb : Below W.heap.size W W') : ∀ {ts : List TypeId} {vs : List Value} {ds : List (DataW H)} {ps : List MemPlace},
    ts.all (fun t => P.readableRec t && decide (t < P.types.size)) = true → DataW.TrodAll enc P W 0 (fun _ => true) true ts vs ds ps → DataW.TrodAll enc P W' 0 (fun b => decide (b < W.heap.size)) true ts vs ds ps
  | [], _, _, _, _, h => by obtain ⟨rfl, rfl, rfl⟩ := trodAll_nil h; exact trodAll_mk0
  | t :: ts, vs, ds, ps, hr, h => by
    obtain ⟨v, vs', d, ds', p, q, rfl, rfl, rfl, h1, h2⟩ := trodAll_cons h
    simp only [List.all_cons, Bool.and_eq_true, decide_eq_true_eq] at hr
    refine trodAll_cons_mk (Below.trod hl hr.1.1 hr.1.2 h1 hb ?_) (below_trodAll hl hb (by simpa using hr.2) h2)
    obtain ⟨m, hm⟩ := h1
    exact DataW.trod_lt m _ _ _ hm
theorem weights_le {ts : List TypeId} {ds : List (DataW H)} (hsz : (DataW.weightsEach P ts ds).all (· ≤ reachBytes) = true) {j : Nat} {t : TypeId} {d : DataW H} (hj : ts[j]? = some t) (hd : ds[j]? = some d) : ∀ n ∈ d.weights P t, n ≤ reachBytes := fun n hn => by
  have := List.all_eq_true.1 hsz n (DataW.weights_mem_each hj hd n hn)
  simpa using this
theorem weightsAll_mem {e : TypeId} : ∀ {l : List (DataW H)} {i : Nat} {d : DataW H}, l[i]? = some d → ∀ n ∈ d.weights P e, n ∈ DataW.weightsAll P e l
  | d0 :: l, 0, d, h, n, hn => by simp at h; subst h; simp [DataW.weightsAll, hn]
  | d0 :: l, i + 1, d, h, n, hn => by
    simp only [List.getElem?_cons_succ] at h
    simp only [DataW.weightsAll, List.mem_append]
    exact .inr (weightsAll_mem h n hn)
end
end Go.Proofs.Ytkgbeihcepociaa
end

section

set_option linter.unusedSimpArgs false
set_option linter.unusedVariables false
namespace Go.Proofs.Ytkgbeihcepociaa.Ex
open Go Go.RowKit Go.ChangeShapes Go.WideShapes Go.ChangeAt
section
variable {H : Type} (enc : TypeId × Value → H)
/-- The blocks of the abstract heap. -/
def InH (W : World) : Nat → Prop := fun b => b < (absH W).n
/-- A value of type t that is read is plain data; of what is not too great, B holds. -/
def OpensA (P : Program) (W : World) (t : TypeId) {α : Type} (R : Rep α) (B : α → Prop) : Prop :=
  P.cellsOf t = R.z ∧ ∀ (fuel : Nat) (cs : List Value) (x : DataW H × List MemPlace), DataW.trod enc P W 0 (fun _ => true) true fuel t cs = some x → (x.1.weights P t).all (· ≤ reachBytes) = true →
    cs.length = R.z ∧ (∀ c ∈ cs, c.oneCell' = true) ∧ ∃ y, R.is (InH W) (absH W) (cs.map (absV W)) y ∧ B y
variable {enc} {P : Program} {W : World}
theorem opensA_int {t : TypeId} (ht : P.underlying t = some (.int .i64)) (hc : P.cellsOf t = 1) : OpensA enc P W t RInt (fun _ => True) := by
  refine ⟨hc, fun fuel cs x h _ => ?_⟩
  obtain ⟨n, rfl, rfl, hw⟩ := DataW.trod_int ht h
  refine ⟨rfl, by simp; rfl, n, ⟨rfl, ?_⟩, trivial⟩
  simp only [Lit.wf, IntKind.min, IntKind.max, IntKind.signed, IntKind.bits] at hw
  simp at hw
  exact ⟨hw.1, by omega⟩
theorem opensA_bool {t : TypeId} (ht : P.underlying t = some .bool) (hc : P.cellsOf t = 1) : OpensA enc P W t RBool (fun _ => True) := by
  refine ⟨hc, fun fuel cs x h _ => ?_⟩
  obtain ⟨b, rfl, rfl⟩ := DataW.trod_bool ht h
  exact ⟨rfl, by simp; rfl, b, rfl, trivial⟩
theorem flat_getV {α : Type} {z : Nat} : ∀ {L : List (List α)}, (∀ x ∈ L, x.length = z) → ∀ (i : Nat) {c : List α}, L[i]? = some c → (L.flatten.drop (i * z)).take z = c
  | [], _, i, c, hc => by simp at hc
  | a :: r, h, i, c, hc => by
    have ha := h a (by simp)
    cases i with
    | zero =>
      obtain rfl : a = c := by simpa using hc
      rw [Nat.zero_mul, List.drop_zero, List.flatten_cons, ← ha, List.take_left']
      rfl
    | succ i =>
      rw [List.flatten_cons, Nat.succ_mul, Nat.add_comm, List.drop_append, List.drop_of_length_le (by omega), List.nil_append, ha, Nat.add_sub_cancel_left]
      exact flat_getV (fun x hx => h x (by simp [hx])) i (by simpa using hc)
theorem flat_lenV {α : Type} {z : Nat} {L : List (List α)} (h : ∀ x ∈ L, x.length = z) : L.flatten.length = L.length * z := by
  induction L with
  | nil => simp
  | cons a r ih =>
    rw [List.flatten_cons, List.length_append, ih (fun x hx => h x (by simp [hx])), h a (by simp), List.length_cons, Nat.succ_mul]
    omega
theorem weightsAll_mem {e : TypeId} : ∀ {l : List (DataW H)} {d : DataW H}, d ∈ l → ∀ n ∈ d.weights P e, n ∈ DataW.weightsAll P e l
  | a :: r, d, hd, n, hn => by
    simp only [DataW.weightsAll, List.mem_append]
    rcases List.mem_cons.1 hd with rfl | h
    · exact .inl hn
    · exact .inr (weightsAll_mem h n hn)
theorem opensA_list {t e : TypeId} {α : Type} {R : Rep α} {B : α → Prop} {by' : Nat} (ht : P.underlying t = some (.slice e)) (hc : P.cellsOf t = 1) (hb : P.bytesOf e = by') (h0 : 0 < R.z) (ho : OpensA enc P W e R B) :
    OpensA enc P W t (RSl R) (fun ys => ys.length * by' ≤ 140737488351232 ∧ ∀ y ∈ ys, B y) := by
  refine ⟨hc, fun fuel cs x hf hw => ?_⟩
  rcases DataW.trod_slice ht hf with ⟨rfl, rfl⟩ | ⟨a, len, cap, elems, rest, m, rfl, rfl, rfl, hba, hl, hm, hlen, hel, hsp, hns⟩
  · exact ⟨rfl, by simp; rfl, [], RSl_is.2 ⟨_, rfl, IsSl.nil⟩, by simp, by simp⟩
  · rw [ho.1] at hel hsp
    simp only [DataW.weights, ht, List.all_cons, List.all_append, Bool.and_eq_true, decide_eq_true_eq, hb] at hw
    obtain ⟨hw1, hw2, hw3⟩ := hw
    have hrl := (hsp rfl).1
    have hbig : len * by' ≤ 140737488351232 := by
      have h1 : len * by' ≤ (elems.map (·.1)).length * by' + (rest.map (·.1)).length * by' := by rw [List.length_map, hlen]; omega
      rw [← Nat.add_mul] at h1
      exact Nat.le_trans h1 hw1
    have hone : ∀ c ∈ [Value.slice (some a) len cap], c.oneCell' = true := by simp; rfl
    refine ⟨rfl, hone, ?_⟩
    by_cases hz : len = 0 ∧ cap = 0
    · obtain ⟨rfl, rfl⟩ := hz
      refine ⟨[], RSl_is.2 ⟨.sl 0 0 0 (.kn 0), by simp [absV], .mk (L := []) ⟨by simp, .inr ⟨0, 0, _, [], rfl, by unfold getR; rw [absH_0], by simp [cut]⟩⟩ (fun b off n cap e => ?_) (fun b off n cap e => by cases e; exact Nat.le_refl 0) .nil⟩, by simp, by simp⟩
      cases e
      exact at_lt (absH_0 W)
    · have hcap : 0 < cap := by omega
      have hsz0 : elems.length + rest.length = cap := by omega
      -- what is read
      have hrd : ∀ i, i < cap → ∃ l x, W.cells? 0 (a.add (i * R.z)) R.z = some l ∧ DataW.trod enc P W 0 (fun _ => true) true m e l = some x ∧ (i < len → elems[i]? = some x) := fun i hi => by
        by_cases hil : i < len
        · have h2 := hel i hil
          rw [List.getElem?_eq_getElem (by omega)] at h2
          obtain ⟨l, hl1, hl2⟩ := Option.bind_eq_some_iff.1 h2
          exact ⟨l, _, hl1, hl2, fun _ => List.getElem?_eq_getElem (by omega)⟩
        · have h2 := (hsp rfl).2 (i - len) (by omega)
          rw [List.getElem?_eq_getElem (by omega), show len + (i - len) = i by omega] at h2
          obtain ⟨l, hl1, hl2⟩ := Option.bind_eq_some_iff.1 h2
          exact ⟨l, _, hl1, hl2, fun h => absurd h hil⟩
      obtain ⟨r, o, spot⟩ := a
      obtain ⟨l0, x0, q1, q2, -⟩ := hrd 0 hcap
      have hspot : spot = none := by
        have h3 := World.cells?_some q1
        have h4 := h3.2.2 0 h0
        rw [List.getElem?_eq_getElem (by have := h3.2.1; omega)] at h4
        simpa [Addr.add] using World.cell?_spot h4
      subst hspot
      have hcell : ∀ (k : Nat) (v : Value), W.cell? (⟨r, o + k, none⟩ : Addr) = some v → ∃ cur e fz, W.heap[r]? = some (.cells cur e fz) ∧ cur[o + k]? = some v := fun k v hk => by
        unfold World.cell? at hk
        cases hh : W.heap[r]? with
        | none => simp [hh] at hk
        | some ob => cases ob <;> simp [hh] at hk <;> exact ⟨_, _, _, rfl, hk⟩
      -- the row
      obtain ⟨cur, te, fz, hrow⟩ : ∃ cur te fz, W.heap[r]? = some (.cells cur te fz) := by
        have h3 := World.cells?_some q1
        have h4 := h3.2.2 0 h0
        rw [List.getElem?_eq_getElem (by have := h3.2.1; omega)] at h4
        obtain ⟨cur, te, fz, h5, _⟩ := hcell 0 _ (by simpa [Addr.add] using h4)
        exact ⟨cur, te, fz, h5⟩
      have hcur : ∀ i l, W.cells? 0 ((⟨r, o, none⟩ : Addr).add (i * R.z)) R.z = some l → l.length = R.z ∧ ∀ f, f < R.z → cur[o + i * R.z + f]? = l[f]? := fun i l hil => by
        have h3 := World.cells?_some hil
        refine ⟨h3.2.1, fun f hf => ?_⟩
        have h4 := h3.2.2 f hf
        obtain ⟨u, hu⟩ : ∃ u, l[f]? = some u := ⟨_, List.getElem?_eq_getElem (by have := h3.2.1; omega)⟩
        rw [hu] at h4 ⊢
        rw [addr_add, addr_add] at h4
        obtain ⟨cur', te', fz', h5, h6⟩ := hcell (i * R.z + f) _ (by rw [← Nat.add_assoc]; exact h4)
        rw [hrow] at h5
        obtain ⟨rfl, _, _⟩ := Obj.cells.inj (Option.some.inj h5)
        rw [← h6, Nat.add_assoc]
      -- the elements, and the data
      have key : ∀ n, n ≤ len → ∃ (L : List (List Value)) (ys : List α), L.length = n ∧ ys.length = n ∧ (∀ c ∈ L, c.length = R.z ∧ ∀ u ∈ c, u.oneCell' = true) ∧ (∀ (i : Nat) c y, L[i]? = some c → ys[i]? = some y → R.is (InH W) (absH W) (c.map (absV W)) y) ∧ (∀ (i : Nat) c, L[i]? = some c → ∀ f, f < R.z → cur[o + i * R.z + f]? = c[f]?) ∧ ∀ y ∈ ys, B y := by
        intro n
        induction n with
        | zero => exact fun _ => ⟨[], [], rfl, rfl, by simp, by simp, by simp, by simp⟩
        | succ n ih =>
          intro hn
          obtain ⟨L, ys, h1, h2, h3, h4, h5, h6⟩ := ih (by omega)
          obtain ⟨l, x, e1, e2, e3⟩ := hrd n (by omega)
          have e3 := e3 (by omega)
          have hwx : (x.1.weights P e).all (· ≤ reachBytes) = true := by
            rw [List.all_eq_true] at hw2 ⊢
            intro k hk
            exact hw2 k (weightsAll_mem (List.mem_map.2 ⟨x, List.mem_of_getElem? e3, rfl⟩) k hk)
          obtain ⟨g1, g2, y, g3, g4⟩ := ho.2 _ _ _ e2 hwx
          obtain ⟨g5, g6⟩ := hcur n l e1
          refine ⟨L ++ [l], ys ++ [y], by simp [h1], by simp [h2], fun c hc => ?_, fun i c z hc hz => ?_, fun i c hc => ?_, fun z hz => ?_⟩
          · rcases List.mem_append.1 hc with hc | hc
            · exact h3 c hc
            · simp at hc; subst hc; exact ⟨g1, g2⟩
          · by_cases hi : i < n
            · rw [List.getElem?_append_left (by omega)] at hc hz
              exact h4 i c z hc hz
            · have := (List.getElem?_eq_some_iff.1 hc).1
              simp only [List.length_append, List.length_singleton] at this
              obtain rfl : i = n := by omega
              rw [List.getElem?_append_right (by omega), h1, Nat.sub_self] at hc
              rw [List.getElem?_append_right (by omega), h2, Nat.sub_self] at hz
              simp at hc hz
              subst hc hz
              exact g3
          · by_cases hi : i < n
            · rw [List.getElem?_append_left (by omega)] at hc
              exact h5 i c hc
            · have := (List.getElem?_eq_some_iff.1 hc).1
              simp only [List.length_append, List.length_singleton] at this
              obtain rfl : i = n := by omega
              rw [List.getElem?_append_right (by omega), h1, Nat.sub_self] at hc
              simp at hc
              subst hc
              exact g6
          · rcases List.mem_append.1 hz with hz | hz
            · exact h6 z hz
            · simp at hz; subst hz; exact g4
      obtain ⟨L, ys, k1, k2, k3, k4, k5, k6⟩ := key len (Nat.le_refl _)
      have hfl : L.flatten.length = len * R.z := by rw [flat_lenV (fun c hc => (k3 c hc).1), k1]
      have hpre : (cur.toList.drop o).take (len * R.z) = L.flatten := by
        apply List.ext_getElem?
        intro j
        by_cases hj : j < len * R.z
        · rw [List.getElem?_take, if_pos hj, List.getElem?_drop, Array.getElem?_toList]
          have hd : j / R.z < len := Nat.div_lt_of_lt_mul (by rw [Nat.mul_comm]; exact hj)
          have hm2 := Nat.mod_lt j h0
          have hdm := Nat.div_add_mod j R.z
          rw [Nat.mul_comm] at hdm
          have hLd : L[j / R.z]? = some L[j / R.z] := List.getElem?_eq_getElem (by omega)
          have h7 := k5 (j / R.z) _ hLd (j % R.z) hm2
          rw [Nat.add_assoc, hdm] at h7
          rw [h7]
          have h8 := flat_getV (fun c hc => (k3 c hc).1) (j / R.z) hLd
          rw [← h8, List.getElem?_take, if_pos hm2, List.getElem?_drop, hdm]
        · rw [List.getElem?_eq_none (by rw [List.length_take]; omega), List.getElem?_eq_none (by omega)]
      have hto : o ≤ cur.size := by
        obtain ⟨hll, hff⟩ := hcur 0 l0 q1
        have := hff 0 h0
        rw [List.getElem?_eq_getElem (by omega)] at this
        have := (Array.getElem?_eq_some_iff.1 this).1
        omega
      have hro : rowO W r = some (cur.toList, te) := by unfold rowO; rw [hrow]
      have hwin : (r, o) ∈ wins W := mem_wins.2 ⟨_, _, hro, by rw [Array.length_toList]; exact hto⟩
      refine ⟨ys, RSl_is.2 ⟨.sl (widx W (r, o)) 0 len (.kn cap), ?_, .mk (L := L.map (·.map (absV W))) ⟨?_, .inr ⟨widx W (r, o), 0, .kn cap, ((cur.toList.drop o).takeWhile (·.oneCell')).map (absV W), by rw [List.length_map, k1], ?_, ?_⟩⟩ (fun b off n cap e => ?_) (fun b off n cap e => ?_) ⟨by rw [List.length_map, k1, k2], fun i c y hc hy => ?_⟩⟩, by rw [k2]; exact hbig, k6⟩
      · show [absV W (.slice (some ⟨r, o, none⟩) len cap)] = _
        simp only [absV, if_neg hz, if_pos (show (r, o) ∈ wins W ∧ len ≤ cap ∧ cap ≤ maxLen from ⟨hwin, hl, hm⟩)]
      · intro c hc
        obtain ⟨d, hd, rfl⟩ := List.mem_map.1 hc
        rw [List.length_map]
        exact (k3 d hd).1
      · unfold getR
        rw [absH_at hwin]
        simp only [absB, hro]
      · have htw : ((cur.toList.drop o).takeWhile (·.oneCell')).take (len * R.z) = L.flatten := by
          rw [takeWhile_take, hpre]
          intro u hu
          rw [hpre] at hu
          obtain ⟨c, hc, hu⟩ := List.mem_flatten.1 hu
          exact (k3 c hc).2 u hu
        have hlen2 : len * R.z ≤ ((cur.toList.drop o).takeWhile (·.oneCell')).length := by
          have := congrArg List.length htw
          rw [List.length_take, hfl] at this
          omega
        rw [List.length_map, k1]
        unfold cut
        rw [if_pos (by rw [List.length_map]; omega), List.drop_zero, ← List.map_take, htw, List.map_flatten]
      · cases e
        exact at_lt (absH_at hwin)
      · cases e
        exact hl
      · rw [List.getElem?_map] at hc
        obtain ⟨d, hd, rfl⟩ := Option.map_eq_some_iff.1 hc
        exact k4 i d y hd hy
/-! Structs. -/
/-- Values of several types, one behind another. -/
def OpensL (enc : TypeId × Value → H) (P : Program) (W : World) (ts : List TypeId) {α : Type} (R : Rep α) (B : α → Prop) : Prop :=
  (ts.map P.cellsOf).sum = R.z ∧ ∀ (fuel : Nat) (cs : List Value) (xs : List (DataW H × List MemPlace)), cs.length = R.z → xs.length = ts.length →
    (∀ (i : Nat) t, ts[i]? = some t → DataW.trod enc P W 0 (fun _ => true) true fuel t ((cs.drop ((ts.take i).map P.cellsOf).sum).take (P.cellsOf t)) = xs[i]?) →
    (DataW.weightsEach P ts (xs.map (·.1))).all (· ≤ reachBytes) = true →
    (∀ c ∈ cs, c.oneCell' = true) ∧ ∃ y, R.is (InH W) (absH W) (cs.map (absV W)) y ∧ B y
theorem opensL_one {t : TypeId} {α : Type} {R : Rep α} {B : α → Prop} (h : OpensA enc P W t R B) : OpensL enc P W [t] R B := by
  refine ⟨by simp [h.1], fun fuel cs xs hc hx hh hw => ?_⟩
  match xs, hx with
  | [x], _ =>
    have h1 := hh 0 t rfl
    simp only [List.take_zero, List.map_nil, List.sum_nil, List.drop_zero, List.getElem?_cons_zero] at h1
    rw [h.1, ← hc, List.take_length] at h1
    simp only [List.map_cons, List.map_nil, DataW.weightsEach, List.append_nil] at hw
    exact (h.2 _ _ _ h1 hw).2
theorem opensL_cons {t : TypeId} {ts : List TypeId} {α β : Type} {R : Rep α} {S : Rep β} {B : α → Prop} {C : β → Prop} (h : OpensA enc P W t R B) (k : OpensL enc P W ts S C) : OpensL enc P W (t :: ts) (RPair R S) (fun x => B x.1 ∧ C x.2) := by
  refine ⟨by simp [h.1, k.1, RPair], fun fuel cs xs hc hx hh hw => ?_⟩
  match xs, hx with
  | x :: xs, hx =>
    have hcz : cs.length = R.z + S.z := hc
    have h1 := hh 0 t rfl
    simp only [List.take_zero, List.map_nil, List.sum_nil, List.drop_zero, List.getElem?_cons_zero, h.1] at h1
    simp only [List.map_cons, DataW.weightsEach, List.all_append, Bool.and_eq_true] at hw
    obtain ⟨g1, g2, y, g3, g4⟩ := h.2 _ _ _ h1 hw.1
    obtain ⟨q1, z, q2, q3⟩ := k.2 fuel (cs.drop R.z) xs (by rw [List.length_drop]; omega) (by simpa using hx) (fun i t' ht' => by
      have h2 := hh (i + 1) t' (by simpa using ht')
      rw [List.take_succ_cons, List.map_cons, List.sum_cons, h.1, ← List.drop_drop, List.getElem?_cons_succ] at h2
      exact h2) hw.2
    refine ⟨fun c hc => ?_, (y, z), ⟨(cs.take R.z).map (absV W), (cs.drop R.z).map (absV W), ?_, g3, q2⟩, g4, q3⟩
    · rw [← List.take_append_drop R.z cs] at hc
      exact (List.mem_append.1 hc).elim (g2 c) (q1 c)
    · rw [← List.map_append, List.take_append_drop]
/-- Do the fields follow one another? -/
def fieldsOk (P : Program) : List Field → Nat → Bool
  | [], _ => true
  | f :: r, k => Nat.beq f.offset k && fieldsOk P r (k + P.cellsOf f.type)
theorem fieldsOk_at : ∀ {fs : List Field} {k : Nat}, fieldsOk P fs k = true → ∀ (i : Nat) f, fs[i]? = some f → f.offset = k + (((fs.map (·.type)).take i).map P.cellsOf).sum
  | [], k, _, i, f, hf => by simp at hf
  | g :: r, k, h, i, f, hf => by
    simp only [fieldsOk, Bool.and_eq_true] at h
    cases i with
    | zero => simp at hf; subst hf; simpa using Nat.eq_of_beq_eq_true h.1
    | succ i =>
      have := fieldsOk_at h.2 i f (by simpa using hf)
      rw [this]
      simp only [List.map_cons, List.take_succ_cons, List.sum_cons]
      omega
theorem opensA_struct {t : TypeId} {fs : Array Field} {ts : List TypeId} {α β : Type} {R : Rep α} {B : α → Prop} {C : β → Prop} (f : β → α) (g : α → β) (hfg : ∀ y, f (g y) = y) (ht : P.underlying t = some (.struct fs)) (hts : fs.toList.map (·.type) = ts) (hok : fieldsOk P fs.toList 0 = true) (hc : P.cellsOf t = R.z)
    (h : OpensL enc P W ts R B) (hBC : ∀ y, B y → C (g y)) : OpensA enc P W t (RMap f R) C := by
  subst hts
  refine ⟨hc, fun fuel cs x hf hw => ?_⟩
  obtain ⟨xs, n, rfl, rfl, hcs, hxs, hel⟩ := DataW.trod_struct ht hf
  simp only [DataW.weights, ht] at hw
  rw [hc] at hcs
  obtain ⟨q1, y, q2, q3⟩ := h.2 n cs xs hcs (by simpa using hxs) (fun i t' ht' => by
    rw [List.getElem?_map] at ht'
    obtain ⟨fd, hfd, rfl⟩ := Option.map_eq_some_iff.1 ht'
    have := hel i fd (by simpa using hfd)
    rw [fieldsOk_at hok i fd hfd, Nat.zero_add] at this
    exact this) hw
  exact ⟨hcs, q1, g y, by show R.is _ _ _ (f (g y)); rw [hfg]; exact q2, hBC y q3⟩
end
section
variable {H : Type} {enc : TypeId × Value → H} {W : World}
theorem opensA_ints : OpensA enc Try.prog W 63 (RSl RInt) (fun ys => ys.length * 8 ≤ 140737488351232 ∧ ∀ y ∈ ys, True) :=
  opensA_list (R := RInt) (B := fun _ => True) Try.underlying63 (by kernel_rfl) (by kernel_rfl) (by decide) (opensA_int Try.underlying3 (by kernel_rfl))
end
end Go.Proofs.Ytkgbeihcepociaa.Ex
end

section

set_option linter.unusedSimpArgs false
set_option linter.unusedVariables false
namespace Go.Proofs.Ytkgbeihcepociaa.Ex
open Go Go.RowKit Go.ChangeShapes Go.WideShapes Go.ChangeAt
def OkPg (x : PgD) : Prop := True
def OkOsd (x : OsdD) : Prop := True
def OkPool (x : PoolD) : Prop := True
def OkBkt (x : BktD) : Prop := Sm 8 x.items ∧ Sm 8 x.weights
def OkMp (x : MapD) : Prop := (Sm 40 x.osds ∧ ∀ y ∈ x.osds, OkOsd y) ∧ (Sm 32 x.pools ∧ ∀ y ∈ x.pools, OkPool y) ∧ (Sm 64 x.buckets ∧ ∀ y ∈ x.buckets, OkBkt y)
section
variable {H : Type} {enc : TypeId × Value → H} {W : World}
theorem opensA_Pg : OpensA enc Try.prog W 56 RPg OkPg :=
  opensA_struct (ts := [3, 3]) (fun x : PgD => (x.pool, x.seed)) (fun y => ⟨y.1, y.2⟩) (fun y => rfl) Try.underlying56 (by rfl) (by kernel_rfl) (by kernel_rfl) (opensL_cons (opensA_int Try.underlying3 (by kernel_rfl)) (opensL_one (opensA_int Try.underlying3 (by kernel_rfl)))) (fun y ⟨_, _⟩ => trivial)
theorem opensA_Osd : OpensA enc Try.prog W 43 ROsd OkOsd :=
  opensA_struct (ts := [4, 4, 3, 3, 3, 3]) (fun x : OsdD => (x.ex, x.up, x.weight, x.boot, x.upFrom, x.upThru)) (fun y => ⟨y.1, y.2.1, y.2.2.1, y.2.2.2.1, y.2.2.2.2.1, y.2.2.2.2.2⟩) (fun y => rfl) Try.underlying43 (by rfl) (by kernel_rfl) (by kernel_rfl) (opensL_cons (opensA_bool Try.underlying4 (by kernel_rfl)) (opensL_cons (opensA_bool Try.underlying4 (by kernel_rfl)) (opensL_cons (opensA_int Try.underlying3 (by kernel_rfl)) (opensL_cons (opensA_int Try.underlying3 (by kernel_rfl)) (opensL_cons (opensA_int Try.underlying3 (by kernel_rfl)) (opensL_one (opensA_int Try.underlying3 (by kernel_rfl)))))))) (fun y ⟨_, _, _, _, _, _⟩ => trivial)
theorem opensA_Osds : OpensA enc Try.prog W 27 (RSl ROsd) (fun ys => Sm 40 ys ∧ ∀ y ∈ ys, OkOsd y) :=
  opensA_list Try.underlying27 (by kernel_rfl) (by kernel_rfl) (by decide) opensA_Osd
theorem opensA_Pool : OpensA enc Try.prog W 94 RPool OkPool :=
  opensA_struct (ts := [3, 3, 3, 3]) (fun x : PoolD => (x.id, x.size, x.min, x.pgs)) (fun y => ⟨y.1, y.2.1, y.2.2.1, y.2.2.2⟩) (fun y => rfl) Try.underlying94 (by rfl) (by kernel_rfl) (by kernel_rfl) (opensL_cons (opensA_int Try.underlying3 (by kernel_rfl)) (opensL_cons (opensA_int Try.underlying3 (by kernel_rfl)) (opensL_cons (opensA_int Try.underlying3 (by kernel_rfl)) (opensL_one (opensA_int Try.underlying3 (by kernel_rfl)))))) (fun y ⟨_, _, _, _⟩ => trivial)
theorem opensA_Pools : OpensA enc Try.prog W 28 (RSl RPool) (fun ys => Sm 32 ys ∧ ∀ y ∈ ys, OkPool y) :=
  opensA_list Try.underlying28 (by kernel_rfl) (by kernel_rfl) (by decide) opensA_Pool
theorem opensA_Bkt : OpensA enc Try.prog W 92 RBkt OkBkt :=
  opensA_struct (ts := [3, 3, 63, 63]) (fun x : BktD => (x.id, x.kind, x.items, x.weights)) (fun y => ⟨y.1, y.2.1, y.2.2.1, y.2.2.2⟩) (fun y => rfl) Try.underlying92 (by rfl) (by kernel_rfl) (by kernel_rfl) (opensL_cons (opensA_int Try.underlying3 (by kernel_rfl)) (opensL_cons (opensA_int Try.underlying3 (by kernel_rfl)) (opensL_cons opensA_ints (opensL_one opensA_ints)))) (fun y ⟨_, _, ⟨h2, _⟩, ⟨h3, _⟩⟩ => ⟨h2, h3⟩)
theorem opensA_Bkts : OpensA enc Try.prog W 29 (RSl RBkt) (fun ys => Sm 64 ys ∧ ∀ y ∈ ys, OkBkt y) :=
  opensA_list Try.underlying29 (by kernel_rfl) (by kernel_rfl) (by decide) opensA_Bkt
theorem opensA_Mp : OpensA enc Try.prog W 31 RMp OkMp :=
  opensA_struct (ts := [3, 27, 28, 29, 3]) (fun x : MapD => (x.epoch, x.osds, x.pools, x.buckets, x.leaf)) (fun y => ⟨y.1, y.2.1, y.2.2.1, y.2.2.2.1, y.2.2.2.2⟩) (fun y => rfl) Try.underlying31 (by rfl) (by kernel_rfl) (by kernel_rfl) (opensL_cons (opensA_int Try.underlying3 (by kernel_rfl)) (opensL_cons opensA_Osds (opensL_cons opensA_Pools (opensL_cons opensA_Bkts (opensL_one (opensA_int Try.underlying3 (by kernel_rfl))))))) (fun y ⟨_, h1, h2, h3, _⟩ => ⟨h1, h2, h3⟩)
end
end Go.Proofs.Ytkgbeihcepociaa.Ex
end

section

set_option linter.unusedSimpArgs false
set_option linter.unusedVariables false
set_option maxRecDepth 10000
set_option maxHeartbeats 4000000
namespace Go.Proofs.Ytkgbeihcepociaa.Ex
open Go
theorem OkMp.okM {m : MapD} (h : OkMp m) : OkM m := ⟨h.2.2.1, h.2.2.2, trivial⟩
theorem ints_x {F G : Nat → Prop} {H : AH} {u v : AV} {xs ys : List Int} (hu : IsSl RInt F H u xs) (hv : IsSl RInt G H v ys) (hl : xs.length < 2 ^ 62) :
    WC Try.prog (tabOf Try.prog NT0) S0 40 [u, v] H fun r h' => h' = H ∧ r = .lit (.bool (xs == ys)) := by
  refine WC_fn Try.func40 rfl rfl ?_
  have s1 := hu.isSl
  have s2 := hu.lenD
  have s3 := hv.isSl
  have s4 := hv.lenD
  simp only [core, Nat.reduceAdd, Nat.reduceSub, Nat.reduceMul, Nat.reduceLT, Nat.reduceEqDiff, reduceCtorEq, Nat.reduceLeDiff, Int.reduceLE, Int.reduceLT, Int.reduceToNat, Try.ntmps40, s1, s2, s3, s4]
  refine ⟨fun he => ?_, fun he => ?_⟩
  · have : ¬ xs = ys := fun hh => by subst hh; simp at he
    congr 2
    simpa using this
  · have he : xs.length = ys.length := by simp at he; omega
    refine WB_for xs.length (fun i t h => h = H ∧ (xs.take i = ys.take i) ∧ t.n = 26 ∧ t.get 0 = u ∧ t.get 1 = v ∧ t.get 12 = .lit (.int .i64 xs.length) ∧ t.get 13 = .lit (.int .i64 i)) ?_ ?_ _ _ ?_
    · rintro i t h hlt hc ⟨rfl, hx, hn, g0, g1, g12, g13⟩ ih
      have hlt2 : i < ys.length := by omega
      have hld := hu.int (T := tabOf Try.prog NT0) (e := 3) (by kernel_rfl) (by kernel_rfl) hlt
      have hld2 := hv.int (T := tabOf Try.prog NT0) (e := 3) (by kernel_rfl) (by kernel_rfl) hlt2
      have hw := wrap_succ hlt (by omega)
      simp only [core, Nat.reduceAdd, Nat.reduceSub, Nat.reduceMul, Nat.reduceLT, Nat.reduceEqDiff, reduceCtorEq, Nat.reduceLeDiff, Int.reduceLE, Int.reduceLT, Int.reduceToNat, s1, s2, s3, s4, hn, g0, g1, g12, g13, hlt, hlt2, hc, hld, hw]
      rw [WB_regionD [0, 1, 2, 3, 4, 5, 6, 7, 8] 1205237335491016659828736 (by kernel_rfl)]
      repeat ((with_reducible refine WDM_cons ?_; simp only [dw1]; try simp only [dw2, Nat.reduceAdd, Nat.reduceMul, Nat.reduceShiftRight, Nat.reduceMod, Nat.reduceEqDiff]); simp only [core, Nat.reduceAdd, Nat.reduceSub, Nat.reduceMul, Nat.reduceLT, Nat.reduceEqDiff, reduceCtorEq, Nat.reduceLeDiff, Int.reduceLE, Int.reduceLT, Int.reduceToNat, cored, s1, s2, s3, s4, hn, g0, g1, g12, g13, hlt, hlt2, hc, hld, hld2, hw])
      have e1 : xs.getD i 0 = xs[i] := by simp [List.getD_eq_getElem?_getD, List.getElem?_eq_getElem hlt]
      have e2 : ys.getD i 0 = ys[i] := by simp [List.getD_eq_getElem?_getD, List.getElem?_eq_getElem hlt2]
      refine ⟨fun hq => ?_, fun hq => ?_⟩
      · have hq : ¬ xs.getD i 0 = ys.getD i 0 := by simpa using hq
        have : ¬ xs = ys := fun hh => by subst hh; exact hq rfl
        congr 2
        simpa using this
      · have hq : xs.getD i 0 = ys.getD i 0 := by simpa using hq
        refine ih _ _ ?_
        simp only [core, Nat.reduceAdd, Nat.reduceSub, Nat.reduceMul, Nat.reduceLT, Nat.reduceEqDiff, reduceCtorEq, Nat.reduceLeDiff, Int.reduceLE, Int.reduceLT, Int.reduceToNat, hn, g0, g1, g12, g13]
        rw [List.take_succ_eq_append_getElem hlt, List.take_succ_eq_append_getElem hlt2, hx, ← e1, ← e2, hq]
    · rintro t h hc ⟨rfl, hx, hn, g0, g1, g12, g13⟩
      simp only [core, Nat.reduceAdd, Nat.reduceSub, Nat.reduceMul, Nat.reduceLT, Nat.reduceEqDiff, reduceCtorEq, Nat.reduceLeDiff, Int.reduceLE, Int.reduceLT, Int.reduceToNat, s1, s2, hn, g0, g1, g12, g13, hc]
      rw [List.take_length, he, List.take_length] at hx
      simp [hx]
    · simp only [core, Nat.reduceAdd, Nat.reduceSub, Nat.reduceMul, Nat.reduceLT, Nat.reduceEqDiff, reduceCtorEq, Nat.reduceLeDiff, Int.reduceLE, Int.reduceLT, Int.reduceToNat]
      simp
theorem tame_x {F : Nat → Prop} {H : AH} {m : MapD} {vo vp vb : AV} (hm : MpAt F H m vo vp vb) :
    WC Try.prog (tabOf Try.prog NT0) S0 26 [mpV m vo vp vb] H fun v h' => Ext H.n H h' ∧ v = .lit (.bool (decide (m.pools.length < 20) && decide (m.buckets.length < 40))) := by
  refine WC_fn Try.func26 rfl rfl ?_
  have o1 := hm.o.one
  have o2 := hm.p.one
  have o3 := hm.b.one
  have i1 := hm.o.isSl
  have i2 := hm.p.isSl
  have i3 := hm.b.isSl
  have l2 := hm.p.lenD
  have l3 := hm.b.lenD
  have EP : ∀ x, Ext H.n H (H.push x) := fun x => (Ext.refl _ _).push _ (Nat.le_refl _)
  by_cases c1 : (m.pools.length : Int) < 20
  · have d1 : decide (m.pools.length < 20) = true := decide_eq_true (by omega)
    by_cases c2 : (m.buckets.length : Int) < 40
    · have d2 : decide (m.buckets.length < 40) = true := decide_eq_true (by omega)
      simp only [core, Nat.reduceAdd, Nat.reduceSub, Nat.reduceMul, Nat.reduceLT, Nat.reduceEqDiff, reduceCtorEq, Nat.reduceLeDiff, Int.reduceLE, Int.reduceLT, Int.reduceToNat, Try.ntmps26, mpV, o1, o2, o3, i2, i3, l2, l3, c1, c2, d1, d2]
      exact EP _
    · have d2 : decide (m.buckets.length < 40) = false := decide_eq_false (by omega)
      simp only [core, Nat.reduceAdd, Nat.reduceSub, Nat.reduceMul, Nat.reduceLT, Nat.reduceEqDiff, reduceCtorEq, Nat.reduceLeDiff, Int.reduceLE, Int.reduceLT, Int.reduceToNat, Try.ntmps26, mpV, o1, o2, o3, i2, i3, l2, l3, c1, c2, d1, d2]
      exact EP _
  · have d1 : decide (m.pools.length < 20) = false := decide_eq_false (by omega)
    simp only [core, Nat.reduceAdd, Nat.reduceSub, Nat.reduceMul, Nat.reduceLT, Nat.reduceEqDiff, reduceCtorEq, Nat.reduceLeDiff, Int.reduceLE, Int.reduceLT, Int.reduceToNat, Try.ntmps26, mpV, o1, o2, o3, i2, i3, l2, l3, c1, d1]
    exact EP _
end Go.Proofs.Ytkgbeihcepociaa.Ex
end

section

set_option linter.unusedSimpArgs false
set_option linter.unusedVariables false
namespace Go.Proofs.Ytkgbeihcepociaa.Ex
open Go Go.RowKit Go.ChangeShapes Go.WideShapes Go.ChangeAt
theorem rels_absV {ρ : Nat → Value} {w : World} : ∀ {cs : List Value}, (∀ c ∈ cs, c.oneCell' = true) → rels ρ (mu0 w) w (cs.map (absV w)) cs
  | [], _ => rels_nil
  | c :: r, h => rels_cons (absV_rel (h c (by simp))) (rels_absV fun x hx => h x (by simp [hx]))
theorem law_join {W : World} {f : FuncId} {vs : List Value} {avs : List AV} (ha : rels (fun _ => default) (mu0 W) W avs vs) (hw : WC Try.prog (tabOf Try.prog NT0) S0 f avs (absH W) fun v h' => v = .lit (.bool true)) :
    Calls Try.prog f vs.toArray W fun e w' => e = .returned (.bool true) ∧ Below W.heap.size W w' := by
  obtain ⟨n, o, h1, hex, v, cm, rfl, rfl⟩ := hw
  refine (ex_callsH tab_sound noNG follows_mixed (sums_ok _ _) (absH_hr W) (absH_nw W) hex ha).mono fun e w' hy => ?_
  obtain ⟨v', μ', rfl, hb, hv⟩ := hy
  exact ⟨by rw [rel_bool_inv hv], hb⟩
theorem open_agg {P : Program} {H : Type} {enc : TypeId × Value → H} {W : World} {base : Nat} {t : TypeId} {v0 : Value} {d0 : DataW H} {p0 : List MemPlace} {d : TypeDesc} {α : Type} {R : Rep α} {B : α → Prop} (hO : OpensA enc P W t R B) (hu : P.underlying t = some d) (hd : isAggD d = true)
    (k0 : Value.okWide P W .any base t v0) (h0 : DataW.Trod enc P W 0 (fun _ => true) true t v0 d0 p0) (hw : ∀ n ∈ d0.weights P t, n ≤ reachBytes) :
    ∃ (cs : List AV) (y : α), rel (fun _ => default) (mu0 W) W (.agg cs) v0 ∧ R.is (InH W) (absH W) cs y ∧ B y := by
  obtain ⟨cs, rfl, h1, h2⟩ := okWide_agg hu hd k0
  obtain ⟨fuel, hf⟩ := h0
  obtain ⟨h3, h4, y, h5, h6⟩ := hO.2 fuel cs.toList _ hf (List.all_eq_true.2 fun n hn => (by simpa using hw n hn))
  refine ⟨_, y, ?_, h5, h6⟩
  unfold rel
  exact ⟨cs.toList, by simp, rels_absV h4⟩
end Go.Proofs.Ytkgbeihcepociaa.Ex
end

section

set_option linter.unusedSimpArgs false
set_option linter.unusedVariables false
set_option maxRecDepth 10000
set_option maxHeartbeats 4000000
namespace Go.Proofs.Ytkgbeihcepociaa.Ex
open Go
theorem actF_nodup {m : MapD} {pool seed : Int} : (actF m pool seed).Nodup := by
  unfold actF
  split
  · exact List.nodup_nil
  · split
    · exact List.nodup_nil
    · exact selectF_may.2
end Go.Proofs.Ytkgbeihcepociaa.Ex
namespace Go.Proofs.Ytkgbeihcepociaa
open Go.RowKit Go.ChangeShapes Go.WideShapes Go.ChangeAt
end Go.Proofs.Ytkgbeihcepociaa
end
