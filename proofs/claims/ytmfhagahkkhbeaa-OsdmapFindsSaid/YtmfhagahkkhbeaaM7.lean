/- Part 7 of the proof: Df5, Df6, OsdmapFindsWalk. -/
import Derived.Test.YtmfhagahkkhbeaaM6
open Nat renaming reduceAdd → zrA, reduceSub → zrS, reduceMul → zrM, reduceLT → zrL, reduceEqDiff → zrE, reduceLeDiff → zrD, reduceShiftRight → zrR, reduceMod → zrO
open Int renaming reduceLE → ziE, reduceLT → ziL, reduceToNat → ziN
section

set_option linter.unusedSimpArgs false
set_option linter.unusedVariables false
set_option maxRecDepth 10000
set_option maxHeartbeats 4000000
namespace Go.Proofs.Ytmfhagahkkhbeaa.Ex
open Go
def dfL10 (a b : MapD) : List ChD := osL wD a b b.osds.length ++ rsL a b
theorem sameB_comm (x y : BktD) : sameB x y = sameB y x := by
  rw [Bool.eq_iff_iff, sameB_eq, sameB_eq]
  exact eq_comm
structure TJ (hb h : AH) (l : List ChD) (s : AV) : Prop where
  o : OwnC (fun _ => True) hb.n h s l
  E : Ext hb.n hb h
theorem TJ.ext {hb h h' : AH} {l : List ChD} {s : AV} (j : TJ hb h l s) (e : Ext h.n h h') : TJ hb h' l s := ⟨j.o.ext e (Nat.le_refl _), j.E.trans (e.mono j.E.1)⟩
theorem TJ.push {hb h h1 : AH} {l : List ChD} {s va vw : AV} {q : Nat} {x : ChD} {e' : TypeId} (j : TJ hb h l s) (e : Ext h.n h h1)
    (A : h1.at q = some (.cells [.lit (.int .i64 x.kind), .lit (.int .i64 x.osd), .lit (.int .i64 x.value), .lit (.int .i64 x.pool.id), .lit (.int .i64 x.pool.size), .lit (.int .i64 x.pool.min), .lit (.int .i64 x.pool.pgs), .lit (.int .i64 x.bucket.id), .lit (.int .i64 x.bucket.kind), va, vw] e'))
    (ha : IsSl RInt (fun k => k < hb.n) h1 va x.bucket.items) (hw : IsSl RInt (fun k => k < hb.n) h1 vw x.bucket.weights) (hi : (I64 x.kind ∧ I64 x.osd ∧ I64 x.value) ∧ okP x.pool ∧ I64 x.bucket.id ∧ I64 x.bucket.kind) (hl : (l.length + 1) * 120 ≤ 140737488355328) :
    ∃ s' h', appendA (tabOf Try.prog NT0) h1 29 29 s (.sl q 0 1 (.kn 1)) = some (s', h') ∧ TJ hb h' (l ++ [x]) s' := by
  have f := j.E.1
  obtain ⟨s', h', a, o', f'⟩ := push_ch (cap := .kn 1) (j.o.ext e (Nat.le_refl _)) (by have := e.1; omega) A (ha.lift fun k hk _ => ⟨rfl, trivial, j.o.apartLt hk⟩) (hw.lift fun k hk _ => ⟨rfl, trivial, j.o.apartLt hk⟩) hi hl
  have fr : Fr h s h' s' := (Fr.ext e).trans f'
  exact ⟨s', h', a, o', j.E.trans ⟨fr.1, fun k hk => (fr.2 k (by omega) (j.o.apartLt hk)).1⟩⟩
theorem poolG_some {m : MapD} {id : Int} {q : PoolD} (h : poolF m id = some q) : poolG m id = q := by unfold poolG; rw [h]; rfl
theorem diff10_x {F : Nat → Prop} {H : AH} {a b : MapD} {vo vp vb uo up ub : AV} (hm : MpAt F H a vo vp vb) (hm2 : MpAt F H b uo up ub) (hF : ∀ k, F k → k < H.n)
    (oka : OkMp a) (okb : OkMp b) (iea : I64 a.epoch) (ila : I64 a.leaf) (ieb : I64 b.epoch) (ilb : I64 b.leaf)
    (hl : (4 * b.osds.length + (b.pools.length + a.buckets.length + 3 * b.buckets.length + 1)) * 120 ≤ 140737488351232)
    (hst : ∀ i n, i ≤ (dfL10 a b).length → applyC a ((dfL10 a b).take i) = (n, 0) → MpSz n ∧ OkMp n) :
    WC Try.prog (tabOf Try.prog NT0) S0 8 [mpV a vo vp vb, mpV b uo up ub] H fun r h' => Ext H.n H h' ∧ ∃ rv, r = .tup [rv, .lit (.int .i64 (dfR a b (dfL10 a b)).2)] ∧ IsSl RCh (fun k => k < h'.n) h' rv (dfR a b (dfL10 a b)).1 := by
  refine WC_fn Try.func8 rfl rfl ?_
  have o1 := hm.o.one
  have o2 := hm.p.one
  have o3 := hm.b.one
  have p1 := hm2.o.one
  have p2 := hm2.p.one
  have p3 := hm2.b.one
  have s1 := hm.o.isSl
  have s2 := hm.p.isSl
  have s3 := hm.b.isSl
  have t1 := hm2.o.isSl
  have t2 := hm2.p.isSl
  have t3 := hm2.b.isSl
  have d3 := hm.b.lenD
  have e2 := hm2.p.lenD
  have e3 := hm2.b.lenD
  obtain ⟨⟨la1, -⟩, ⟨la2, -⟩, la3, ha⟩ := id oka
  obtain ⟨⟨lb1, -⟩, ⟨lb2, -⟩, lb3, hb'⟩ := id okb
  have la3' := la3
  have lb2' := lb2
  have lb3' := lb3
  unfold Sm at lb2' lb3' la3'
  obtain ⟨hb, hhb⟩ : ∃ hb, hb = (H.push (mC a vo vp vb)).push (mC b uo up ub) := ⟨_, rfl⟩
  have EB : Ext H.n H hb := hhb ▸ ((Ext.refl _ _).push _ (Nat.le_refl _)).push _ (by rw [n_push]; omega)
  have A0 : hb.at H.n = some (mC a vo vp vb) := hhb ▸ (at_push_lt _ (by rw [n_push]; omega)).trans (at_push_n _ _)
  have B0 : hb.at (H.n + 1) = some (mC b uo up ub) := hhb ▸ at_push_n (H.push (mC a vo vp vb)) _
  have nb : hb.n = H.n + 2 := by rw [hhb, n_push, n_push]
  have ma := hm.ext EB (Nat.le_refl _)
  have mb := hm2.ext EB (Nat.le_refl _)
  unfold mC at hhb A0 B0
  have LA0 := ld_at (T := tabOf Try.prog NT0) A0
  have LB0 := ld_at (T := tabOf Try.prog NT0) B0
  have lA0 := at_lt A0
  have lB0 := at_lt B0
  have keep : ∀ h, Ext hb.n hb h → h.at H.n = some (mC a vo vp vb) ∧ h.at (H.n + 1) = some (mC b uo up ub) := fun h e => ⟨(e.2 _ lA0).trans A0, (e.2 _ lB0).trans B0⟩
  simp only [core, zrA, zrS, zrM, zrL, zrE, reduceCtorEq, zrD, ziE, ziL, ziN, Try.ntmps8, mpV, o1, o2, o3, p1, p2, p3, n_push, ← hhb, LA0, LB0, lA0, lB0]
  refine (osds10_x ma mb la1 lb1 (by omega)).mono ?_
  rintro s1' h1 ⟨E1, oo⟩
  obtain ⟨L0, hL0⟩ : ∃ L0, L0 = osL wD a b b.osds.length := ⟨_, rfl⟩
  have hL0n := osL_len wD a b b.osds.length
  rw [← hL0] at hL0n oo
  have j1 : TJ hb h1 L0 s1' := ⟨oo.monoG (fun _ _ => trivial), E1⟩
  have os1 := oo.one
  have LA1 := ld_at (T := tabOf Try.prog NT0) (keep _ E1).1
  have LB1 := ld_at (T := tabOf Try.prog NT0) (keep _ E1).2
  have lA1 := at_lt (keep _ E1).1
  have lB1 := at_lt (keep _ E1).2
  obtain ⟨N, hN⟩ : ∃ N, N = b.pools.length := ⟨_, rfl⟩
  rw [← hN] at e2
  simp only [core, zrA, zrS, zrM, zrL, zrE, reduceCtorEq, zrD, ziE, ziL, ziN, os1, LA1, LB1, lA1, lB1, t2, e2]
  refine WB_for N (fun i t h => (∃ s', TJ hb h (L0 ++ (b.pools.take i).flatMap (chP a)) s' ∧ t.get 6 = s') ∧ t.n = 143 ∧ t.get 2 = .ptr H.n 0 ∧ t.get 3 = .ptr (H.n + 1) 0 ∧ t.get 26 = up ∧ t.get 27 = .lit (.int .i64 N) ∧ t.get 28 = .lit (.int .i64 i)) ?_ ?_ _ _ ?_
  · rintro i t h hlt hc ⟨⟨s', j, g6⟩, hn, g2, g3, g26, g27, g28⟩ ih
    have hwi := wrap_succ (n := N) hlt (by omega)
    have hlen := fm_len (chP_len a) (b.pools.take i)
    rw [List.length_take] at hlen
    obtain ⟨p, hp⟩ : ∃ p, b.pools[i]? = some p := ⟨_, List.getElem?_eq_getElem (by omega)⟩
    have hltp : i < b.pools.length := by omega
    have f1 := j.E.1
    have LA := ld_at (T := tabOf Try.prog NT0) (keep _ j.E).1
    have lA := at_lt (keep _ j.E).1
    obtain ⟨cp, hcp, ld1, ld1'⟩ := (mb.ext j.E (Nat.le_refl _)).p.at (T := tabOf Try.prog NT0) RPool_z hp
    obtain ⟨rfl, ip⟩ := RPool_is.1 hcp
    have hfs : (b.pools.take (i + 1)).flatMap (chP a) = (b.pools.take i).flatMap (chP a) ++ chP a p := fm_succ hp
    have hsz : ((L0 ++ (b.pools.take i).flatMap (chP a)).length + 1) * 120 ≤ 140737488355328 := by
      rw [show (L0 ++ (b.pools.take i).flatMap (chP a)).length = L0.length + ((b.pools.take i).flatMap (chP a)).length from List.length_append]
      exact sz_aux hL0n hlen hltp hl
    have hcI : (I64 (chPl p).kind ∧ I64 (chPl p).osd ∧ I64 (chPl p).value) ∧ okP (chPl p).pool ∧ I64 (chPl p).bucket.id ∧ I64 (chPl p).bucket.kind := ⟨⟨by show I64 5; unfold I64; decide, I64z, I64z⟩, ip, I64z, I64z⟩
    obtain ⟨hA, hhA⟩ : ∃ hA, hA = h.push (.cells [.lit (.int .i64 p.id), .lit (.int .i64 p.size), .lit (.int .i64 p.min), .lit (.int .i64 p.pgs)] 52) := ⟨_, rfl⟩
    have eA : Ext h.n h hA := hhA ▸ (Ext.refl _ _).push _ (Nat.le_refl _)
    have nA : hA.n = h.n + 1 := by rw [hhA, n_push]
    have P0 : hA.at h.n = some (.cells [.lit (.int .i64 p.id), .lit (.int .i64 p.size), .lit (.int .i64 p.min), .lit (.int .i64 p.pgs)] 52) := hhA ▸ at_push_n _ _
    have LP0 := ld_at (T := tabOf Try.prog NT0) P0
    have lP0 := at_lt P0
    have LAA := ld_at (T := tabOf Try.prog NT0) (keep _ (j.ext eA).E).1
    have lAA := at_lt (keep _ (j.ext eA).E).1
    simp only [core, zrA, zrS, zrM, zrL, zrE, reduceCtorEq, zrD, ziE, ziL, ziN, hn, g2, g3, g26, g27, g28, hlt, hc, t2, e2, ld1, ld1', LAA, lAA, LP0, lP0, o1, o2, o3, ← hhA]
    refine (pool10_x p.id (ma.ext (j.ext eA).E (Nat.le_refl _)) la2).mono ?_
    rintro _ h3 ⟨e3', rfl⟩
    have e3h : Ext h.n h h3 := eA.trans (e3'.mono (by omega))
    have P3 := (e3'.2 _ lP0).trans P0
    have LP3 := ld_at (T := tabOf Try.prog NT0) P3
    have lP3 := at_lt P3
    obtain ⟨hB, hhB⟩ : ∃ hB, hB = h3.push (.cells [.lit (.int .i64 (poolG a p.id).id), .lit (.int .i64 (poolG a p.id).size), .lit (.int .i64 (poolG a p.id).min), .lit (.int .i64 (poolG a p.id).pgs)] 52) := ⟨_, rfl⟩
    have eB : Ext h3.n h3 hB := hhB ▸ (Ext.refl _ _).push _ (Nat.le_refl _)
    have G0 : hB.at h3.n = some (.cells [.lit (.int .i64 (poolG a p.id).id), .lit (.int .i64 (poolG a p.id).size), .lit (.int .i64 (poolG a p.id).min), .lit (.int .i64 (poolG a p.id).pgs)] 52) := hhB ▸ at_push_n _ _
    have LG0 := ld_at (T := tabOf Try.prog NT0) G0
    have lG0 := at_lt G0
    have P4 := (eB.2 _ lP3).trans P3
    have LP4 := ld_at (T := tabOf Try.prog NT0) P4
    have lP4 := at_lt P4
    have e4h : Ext h.n h hB := e3h.trans (eB.mono (by have := e3h.1; omega))
    have os4 := j.o.isSl
    have oo4 := j.o.one
    unfold poolV
    by_cases hpo : poolF a p.id = none
    · have hsm : (poolF a p.id).isSome = false := by rw [hpo]; rfl
      have hcp : chP a p = [chPl p] := by unfold chP; rw [hpo, if_neg fun hh => by cases hh]
      simp only [core, zrA, zrS, zrM, zrL, zrE, reduceCtorEq, zrD, ziE, ziL, ziN, hn, g2, g3, g26, g27, g28, g6, hsm, aundef, ← hhB, LP4, lP4, LG0, lG0]
      obtain ⟨hP, hhP⟩ : ∃ hP, hP = hB.push (.cells [.lit (.int .i64 5), .lit (.int .i64 0), .lit (.int .i64 0), .lit (.int .i64 p.id), .lit (.int .i64 p.size), .lit (.int .i64 p.min), .lit (.int .i64 p.pgs), .lit (.int .i64 0), .lit (.int .i64 0), .lit (.slice none 0 0), .lit (.slice none 0 0)] 54) := ⟨_, rfl⟩
      have e6 : Ext hB.n hB hP := hhP ▸ (Ext.refl _ _).push _ (Nat.le_refl _)
      have e6h := (e4h).trans (e6.mono (e4h).1)
      have PP : hP.at hB.n = some (.cells [.lit (.int .i64 5), .lit (.int .i64 0), .lit (.int .i64 0), .lit (.int .i64 p.id), .lit (.int .i64 p.size), .lit (.int .i64 p.min), .lit (.int .i64 p.pgs), .lit (.int .i64 0), .lit (.int .i64 0), .lit (.slice none 0 0), .lit (.slice none 0 0)] 54) := hhP ▸ at_push_n _ _
      rw [← hhP]
      have key := j.push (x := chPl p) e6h PP (.nil) (.nil) hcI hsz
      refine WOp_app key ?_
      rintro s6 h6 j6
      have w1 := j6.o.isSl
      have w2 := j6.o.one
      repeat (first | ((with_reducible refine WDM_cons ?_; simp only [dw1]; try simp only [dw2, zrA, zrM, zrR, zrO, zrE]); simp only [core, zrA, zrS, zrM, zrL, zrE, reduceCtorEq, zrD, ziE, ziL, ziN, cored, hn, g2, g3, g26, g27, g28, g6, w1, w2, hwi]) | simp only [core, zrA, zrS, zrM, zrL, zrE, reduceCtorEq, zrD, ziE, ziL, ziN, cored, hn, g2, g3, g26, g27, g28, g6, w1, w2, hwi])
      refine ih _ _ ⟨⟨s6, ?_, ?_⟩, ?_⟩
      · rw [hfs, hcp, ← List.append_assoc]
        exact j6
      all_goals simp only [core, zrA, zrS, zrM, zrL, zrE, reduceCtorEq, zrD, ziE, ziL, ziN, hn, g2, g3, g26, g27, g28]
    · obtain ⟨q, hq⟩ := Option.ne_none_iff_exists'.1 hpo
      have hsm : (poolF a p.id).isSome = true := by rw [hq]; rfl
      by_cases hqp : q = p
      · have hd : decide (poolG a p.id = p) = true := decide_eq_true (by rw [poolG_some hq]; exact hqp)
        simp only [core, zrA, zrS, zrM, zrL, zrE, reduceCtorEq, zrD, ziE, ziL, ziN, hn, g2, g3, g26, g27, g28, g6, hsm, aundef, ← hhB, LP4, lP4, LG0, lG0, a_neMpool, neMpool_eq, eqPool, hd, hwi]
        refine ih _ _ ⟨⟨s', ?_, ?_⟩, ?_⟩
        · rw [hfs, show chP a p = [] by unfold chP; rw [hq, hqp, if_pos rfl], List.append_nil]
          exact j.ext e4h
        all_goals simp only [core, zrA, zrS, zrM, zrL, zrE, reduceCtorEq, zrD, ziE, ziL, ziN, hn, g2, g3, g26, g27, g28, g6]
      · have hd : decide (poolG a p.id = p) = false := decide_eq_false (by rw [poolG_some hq]; exact hqp)
        have hcp : chP a p = [chPl p] := by unfold chP; rw [hq, if_neg fun hh => hqp (Option.some.inj hh)]
        simp only [core, zrA, zrS, zrM, zrL, zrE, reduceCtorEq, zrD, ziE, ziL, ziN, hn, g2, g3, g26, g27, g28, g6, hsm, aundef, ← hhB, LP4, lP4, LG0, lG0, a_neMpool, neMpool_eq, eqPool, hd, hwi]
        obtain ⟨hP, hhP⟩ : ∃ hP, hP = hB.push (.cells [.lit (.int .i64 5), .lit (.int .i64 0), .lit (.int .i64 0), .lit (.int .i64 p.id), .lit (.int .i64 p.size), .lit (.int .i64 p.min), .lit (.int .i64 p.pgs), .lit (.int .i64 0), .lit (.int .i64 0), .lit (.slice none 0 0), .lit (.slice none 0 0)] 54) := ⟨_, rfl⟩
        have e6 : Ext hB.n hB hP := hhP ▸ (Ext.refl _ _).push _ (Nat.le_refl _)
        have e6h := (e4h).trans (e6.mono (e4h).1)
        have PP : hP.at hB.n = some (.cells [.lit (.int .i64 5), .lit (.int .i64 0), .lit (.int .i64 0), .lit (.int .i64 p.id), .lit (.int .i64 p.size), .lit (.int .i64 p.min), .lit (.int .i64 p.pgs), .lit (.int .i64 0), .lit (.int .i64 0), .lit (.slice none 0 0), .lit (.slice none 0 0)] 54) := hhP ▸ at_push_n _ _
        rw [← hhP]
        have key := j.push (x := chPl p) e6h PP (.nil) (.nil) hcI hsz
        refine WOp_app key ?_
        rintro s6 h6 j6
        have w1 := j6.o.isSl
        have w2 := j6.o.one
        repeat (first | ((with_reducible refine WDM_cons ?_; simp only [dw1]; try simp only [dw2, zrA, zrM, zrR, zrO, zrE]); simp only [core, zrA, zrS, zrM, zrL, zrE, reduceCtorEq, zrD, ziE, ziL, ziN, cored, hn, g2, g3, g26, g27, g28, g6, w1, w2, hwi]) | simp only [core, zrA, zrS, zrM, zrL, zrE, reduceCtorEq, zrD, ziE, ziL, ziN, cored, hn, g2, g3, g26, g27, g28, g6, w1, w2, hwi])
        refine ih _ _ ⟨⟨s6, ?_, ?_⟩, ?_⟩
        · rw [hfs, hcp, ← List.append_assoc]
          exact j6
        all_goals simp only [core, zrA, zrS, zrM, zrL, zrE, reduceCtorEq, zrD, ziE, ziL, ziN, hn, g2, g3, g26, g27, g28]
  · rintro t h hc ⟨⟨s', j, g6⟩, hn, g2, g3, g26, g27, g28⟩
    rw [List.take_of_length_le (by omega)] at j
    obtain ⟨L1, hL1⟩ : ∃ L1, L1 = L0 ++ b.pools.flatMap (chP a) := ⟨_, rfl⟩
    have hPl := fm_len (chP_len a) b.pools
    have hL1n : L1.length = L0.length + (b.pools.flatMap (chP a)).length := by rw [hL1, List.length_append]
    rw [← hL1] at j
    have f1 := j.E.1
    have LA := ld_at (T := tabOf Try.prog NT0) (keep _ j.E).1
    have LB := ld_at (T := tabOf Try.prog NT0) (keep _ j.E).2
    have lA := at_lt (keep _ j.E).1
    have lB := at_lt (keep _ j.E).2
    obtain ⟨M, hM⟩ : ∃ M, M = a.buckets.length := ⟨_, rfl⟩
    rw [← hM] at d3
    simp only [core, zrA, zrS, zrM, zrL, zrE, reduceCtorEq, zrD, ziE, ziL, ziN, hn, g2, g3, g26, g27, g28, g6, hc, LA, LB, lA, lB, s3, d3]
    refine WB_for M (fun i t h => (∃ s', TJ hb h (L1 ++ (a.buckets.take i).flatMap (chG b)) s' ∧ t.get 6 = s') ∧ t.n = 143 ∧ t.get 2 = .ptr H.n 0 ∧ t.get 3 = .ptr (H.n + 1) 0 ∧ t.get 53 = vb ∧ t.get 54 = .lit (.int .i64 M) ∧ t.get 55 = .lit (.int .i64 i)) ?_ ?_ _ _ ?_
    · rintro i t h hlt hc ⟨⟨s', j, g6⟩, hn, g2, g3, g53, g54, g55⟩ ih
      have hwi := wrap_succ (n := M) hlt (by omega)
      have hlen := fm_len (chG_len b) (a.buckets.take i)
      rw [List.length_take] at hlen
      obtain ⟨x, hx⟩ : ∃ x, a.buckets[i]? = some x := ⟨_, List.getElem?_eq_getElem (by omega)⟩
      have hltp : i < a.buckets.length := by omega
      have f1 := j.E.1
      obtain ⟨cx, hcx, ld1, ld1'⟩ := (ma.ext j.E (Nat.le_refl _)).b.at (T := tabOf Try.prog NT0) RBkt_z hx
      obtain ⟨va, vw, rfl, xa, xw, ix⟩ := RBkt_is.1 hcx
      have y1 := xa.one
      have y2 := xw.one
      have hfs : (a.buckets.take (i + 1)).flatMap (chG b) = (a.buckets.take i).flatMap (chG b) ++ chG b x := fm_succ hx
      obtain ⟨hA, hhA⟩ : ∃ hA, hA = h.push (.cells [.lit (.int .i64 x.id), .lit (.int .i64 x.kind), va, vw] 50) := ⟨_, rfl⟩
      have eA : Ext h.n h hA := hhA ▸ (Ext.refl _ _).push _ (Nat.le_refl _)
      have nA : hA.n = h.n + 1 := by rw [hhA, n_push]
      have P0 : hA.at h.n = some (.cells [.lit (.int .i64 x.id), .lit (.int .i64 x.kind), va, vw] 50) := hhA ▸ at_push_n _ _
      have LP0 := ld_at (T := tabOf Try.prog NT0) P0
      have lP0 := at_lt P0
      have LBA := ld_at (T := tabOf Try.prog NT0) (keep _ (j.ext eA).E).2
      have lBA := at_lt (keep _ (j.ext eA).E).2
      simp only [core, zrA, zrS, zrM, zrL, zrE, reduceCtorEq, zrD, ziE, ziL, ziN, hn, g2, g3, g53, g54, g55, hlt, hc, s3, d3, ld1, ld1', y1, y2, LBA, lBA, LP0, lP0, p1, p2, p3, ← hhA]
      refine (bucketR_x x.id (mb.ext (j.ext eA).E (Nat.le_refl _)) lb3).mono ?_
      rintro _ h3 ⟨e3', wa, ww, rfl, ya, yw⟩
      have y3 := ya.one
      have y4 := yw.one
      have e3h : Ext h.n h h3 := eA.trans (e3'.mono (by omega))
      obtain ⟨hB, hhB⟩ : ∃ hB, hB = h3.push (.cells [.lit (.int .i64 (bucketG b x.id).id), .lit (.int .i64 (bucketG b x.id).kind), wa, ww] 50) := ⟨_, rfl⟩
      have eB : Ext h3.n h3 hB := hhB ▸ (Ext.refl _ _).push _ (Nat.le_refl _)
      have e4h : Ext h.n h hB := e3h.trans (eB.mono (by have := e3h.1; omega))
      have P4 := (eB.2 _ (by have := e3'.1; omega)).trans ((e3'.2 _ lP0).trans P0)
      have LP4 := ld_at (T := tabOf Try.prog NT0) P4
      have lP4 := at_lt P4
      have os4 := j.o.isSl
      have oo4 := j.o.one
      unfold bktV
      by_cases hsm : (bucketF b x.id).isSome = true
      · simp only [core, zrA, zrS, zrM, zrL, zrE, reduceCtorEq, zrD, ziE, ziL, ziN, hn, g2, g3, g53, g54, g55, g6, hsm, y3, y4, hwi, ← hhB]
        refine ih _ _ ⟨⟨s', ?_, ?_⟩, ?_⟩
        · rw [hfs, show chG b x = [] by unfold chG; rw [if_pos hsm], List.append_nil]
          exact j.ext e4h
        all_goals simp only [core, zrA, zrS, zrM, zrL, zrE, reduceCtorEq, zrD, ziE, ziL, ziN, hn, g2, g3, g53, g54, g55, g6]
      · have hcp : chG b x = [chB ⟨x.id, 0, [], []⟩] := by unfold chG; rw [if_neg hsm]
        have hsm := eq_false_of_ne_true hsm
        have hsz : ((L1 ++ (a.buckets.take i).flatMap (chG b)).length + 1) * 120 ≤ 140737488355328 := by
          rw [show (L1 ++ (a.buckets.take i).flatMap (chG b)).length = L1.length + ((a.buckets.take i).flatMap (chG b)).length from List.length_append, hL1n]
          exact sz_aux3 hL0n hPl (Nat.le_trans hlen (Nat.le_trans (Nat.min_le_left _ _) (by omega))) hl
        simp only [core, zrA, zrS, zrM, zrL, zrE, reduceCtorEq, zrD, ziE, ziL, ziN, hn, g2, g3, g53, g54, g55, g6, hsm, y3, y4, LP4, lP4, ← hhB]
        obtain ⟨hP, hhP⟩ : ∃ hP, hP = hB.push (.cells [.lit (.int .i64 6), .lit (.int .i64 0), .lit (.int .i64 0), .lit (.int .i64 0), .lit (.int .i64 0), .lit (.int .i64 0), .lit (.int .i64 0), .lit (.int .i64 x.id), .lit (.int .i64 0), .lit (.slice none 0 0), .lit (.slice none 0 0)] 54) := ⟨_, rfl⟩
        have e6 : Ext hB.n hB hP := hhP ▸ (Ext.refl _ _).push _ (Nat.le_refl _)
        have e6h := (e4h).trans (e6.mono (e4h).1)
        have PP : hP.at hB.n = some (.cells [.lit (.int .i64 6), .lit (.int .i64 0), .lit (.int .i64 0), .lit (.int .i64 0), .lit (.int .i64 0), .lit (.int .i64 0), .lit (.int .i64 0), .lit (.int .i64 x.id), .lit (.int .i64 0), .lit (.slice none 0 0), .lit (.slice none 0 0)] 54) := hhP ▸ at_push_n _ _
        rw [← hhP]
        have key := j.push (x := chB ⟨x.id, 0, [], []⟩) e6h PP (.nil) (.nil) ⟨⟨by show I64 6; unfold I64; decide, I64z, I64z⟩, okp0, ix.1, I64z⟩ hsz
        refine WOp_app key ?_
        rintro s6 h6 j6
        have w1 := j6.o.isSl
        have w2 := j6.o.one
        repeat (first | ((with_reducible refine WDM_cons ?_; simp only [dw1]; try simp only [dw2, zrA, zrM, zrR, zrO, zrE]); simp only [core, zrA, zrS, zrM, zrL, zrE, reduceCtorEq, zrD, ziE, ziL, ziN, cored, hn, g2, g3, g53, g54, g55, g6, w1, w2, hwi]) | simp only [core, zrA, zrS, zrM, zrL, zrE, reduceCtorEq, zrD, ziE, ziL, ziN, cored, hn, g2, g3, g53, g54, g55, g6, w1, w2, hwi])
        refine ih _ _ ⟨⟨s6, ?_, ?_⟩, ?_⟩
        · rw [hfs, hcp, ← List.append_assoc]
          exact j6
        all_goals simp only [core, zrA, zrS, zrM, zrL, zrE, reduceCtorEq, zrD, ziE, ziL, ziN, hn, g2, g3, g53, g54, g55]
    · rintro t h hc ⟨⟨s', j, g6⟩, hn, g2, g3, g53, g54, g55⟩
      rw [List.take_of_length_le (by omega)] at j
      simp only [core, zrA, zrS, zrM, zrL, zrE, reduceCtorEq, zrD, ziE, ziL, ziN, hn, g2, g3, g53, g54, g55, g6, hc]
      refine WB_ind (fun (k : Nat) t h' => k ≤ 3 ∧ (∃ s', TJ hb h' (L1 ++ (a.buckets.flatMap (chG b) ++ bkN a b k)) s' ∧ t.get 6 = s') ∧ t.n = 143 ∧ t.get 2 = .ptr H.n 0 ∧ t.get 3 = .ptr (H.n + 1) 0 ∧ t.get 15 = .lit (.int .i64 ((k : Int) + 1))) (fun k => 4 - k) ?_ 0 _ _ ?_
      · rintro k t h ⟨hk3, ⟨s', j, g6⟩, hn, g2, g3, g15⟩ ih
        have LB := ld_at (T := tabOf Try.prog NT0) (keep _ j.E).2
        have lB := at_lt (keep _ j.E).2
        have LA := ld_at (T := tabOf Try.prog NT0) (keep _ j.E).1
        have lA := at_lt (keep _ j.E).1
        have os := j.o.isSl
        have oo := j.o.one
        by_cases hk4 : k = 3
        · subst hk4
          have hc1 : ((((3 : Nat) : Int) + 1) ≤ 3) = False := by decide
          have j : TJ hb h (L1 ++ bkL a b) s' := j
          have eqL : L1 ++ bkL a b ++ chL a b = dfL10 a b := by
            rw [hL1, hL0]
            unfold dfL10 rsL
            simp only [List.append_assoc]
          have hbk := bkL_len a b
          have hsz7 : ((L1 ++ bkL a b).length + 1) * 120 ≤ 140737488355328 := by
            rw [show (L1 ++ bkL a b).length = L1.length + (bkL a b).length from List.length_append, hL1n]
            exact sz_aux3 hL0n hPl hbk hl
          simp only [core, zrA, zrS, zrM, zrL, zrE, reduceCtorEq, zrD, ziE, ziL, ziN, hn, g2, g3, g15, g6, hc1]
          simp only [corem, WB_cond_s, put, ldL, WB_label, List.nil_append, List.drop_zero, List.take_zero, zrA, zrS, zrM, zrL, zrE, reduceCtorEq, zrD, ziE, ziL, ziN, hn, g2, g3, g15, g6, LA, LB, lA, lB, -WB_cond_s]
          refine WB_cut (fun t h' => (∃ s', TJ hb h' (dfL10 a b) s' ∧ t.get 6 = s') ∧ t.n = 143 ∧ t.get 2 = .ptr H.n 0 ∧ t.get 3 = .ptr (H.n + 1) 0) (fun k' K' hk => ?_) ?_
          · by_cases hlf : (a.leaf != b.leaf) = true
            · have hcp : chL a b = [chLf b.leaf] := by unfold chL; rw [if_neg (bne_iff_ne.1 hlf)]
              simp only [core, zrA, zrS, zrM, zrL, zrE, reduceCtorEq, zrD, ziE, ziL, ziN, hn, g2, g3, g15, g6, hlf, LB, lB]
              obtain ⟨hP, hhP⟩ : ∃ hP, hP = h.push (.cells [.lit (.int .i64 7), .lit (.int .i64 0), .lit (.int .i64 b.leaf), .lit (.int .i64 0), .lit (.int .i64 0), .lit (.int .i64 0), .lit (.int .i64 0), .lit (.int .i64 0), .lit (.int .i64 0), .lit (.slice none 0 0), .lit (.slice none 0 0)] 54) := ⟨_, rfl⟩
              have e6 : Ext h.n h hP := hhP ▸ (Ext.refl _ _).push _ (Nat.le_refl _)
              have e6h := ((Ext.refl h.n h)).trans (e6.mono ((Ext.refl h.n h)).1)
              have PP : hP.at h.n = some (.cells [.lit (.int .i64 7), .lit (.int .i64 0), .lit (.int .i64 b.leaf), .lit (.int .i64 0), .lit (.int .i64 0), .lit (.int .i64 0), .lit (.int .i64 0), .lit (.int .i64 0), .lit (.int .i64 0), .lit (.slice none 0 0), .lit (.slice none 0 0)] 54) := hhP ▸ at_push_n _ _
              rw [← hhP]
              have key := j.push (x := chLf b.leaf) e6h PP (.nil) (.nil) ⟨⟨by show I64 7; unfold I64; decide, I64z, ilb⟩, okp0, I64z, I64z⟩ hsz7
              refine WOp_app key ?_
              rintro s6 h6 j6
              have w1 := j6.o.isSl
              have w2 := j6.o.one
              repeat (first | ((with_reducible refine WDM_cons ?_; simp only [dw1]; try simp only [dw2, zrA, zrM, zrR, zrO, zrE]); simp only [core, zrA, zrS, zrM, zrL, zrE, reduceCtorEq, zrD, ziE, ziL, ziN, cored, hn, g2, g3, g15, g6, w1, w2, oo]) | simp only [core, zrA, zrS, zrM, zrL, zrE, reduceCtorEq, zrD, ziE, ziL, ziN, cored, hn, g2, g3, g15, g6, w1, w2, oo])
              rw [← hcp, eqL] at j6
              refine hk _ _ ⟨⟨s6, j6, ?_⟩, ?_⟩
              all_goals simp only [core, zrA, zrS, zrM, zrL, zrE, reduceCtorEq, zrD, ziE, ziL, ziN, hn, g2, g3, g15]
            · have hlf2 := eq_false_of_ne_true hlf
              have hcp : chL a b = [] := by unfold chL; rw [if_pos (Classical.not_not.1 fun hh => hlf (bne_iff_ne.2 hh))]
              rw [hcp, List.append_nil] at eqL
              rw [eqL] at j
              simp only [core, zrA, zrS, zrM, zrL, zrE, reduceCtorEq, zrD, ziE, ziL, ziN, hn, g2, g3, g15, g6, hlf2]
              refine hk _ _ ⟨⟨s', j, ?_⟩, ?_⟩
              all_goals simp only [core, zrA, zrS, zrM, zrL, zrE, reduceCtorEq, zrD, ziE, ziL, ziN, hn, g2, g3, g15, g6]
          rintro t h7 ⟨⟨s7, j7, g6⟩, hn, g2, g3⟩
          have LA7 := ld_at (T := tabOf Try.prog NT0) (keep _ j7.E).1
          have lA7 := at_lt (keep _ j7.E).1
          have LB7 := ld_at (T := tabOf Try.prog NT0) (keep _ j7.E).2
          have lB7 := at_lt (keep _ j7.E).2
          have os7 := j7.o.isSl
          have o7 := j7.o.one
          have f7 := j7.E.1
          have mT : MpAt (fun _ => True) h7 a vo vp vb := ⟨(ma.ext j7.E (Nat.le_refl _)).o.lift fun _ _ _ => ⟨rfl, trivial⟩, (ma.ext j7.E (Nat.le_refl _)).p.lift fun _ _ _ => ⟨rfl, trivial⟩, (ma.ext j7.E (Nat.le_refl _)).b.lift fun _ _ _ => ⟨rfl, trivial⟩⟩
          have cT : IsSl RCh (fun _ => True) h7 s7 (dfL10 a b) := j7.o.toSl (fun _ _ => trivial) (fun _ _ => trivial)
          have hlen : (dfL10 a b).length ≤ 4 * b.osds.length + (b.pools.length + a.buckets.length + 3 * b.buckets.length + 1) := by
            have h1 := osL_len wD a b b.osds.length
            have h2 := rsL_len a b
            unfold dfL10
            rw [List.length_append]
            omega
          have hno : NoB (dfL10 a b) := (osL_no wD a b _).append (rsL_no hb')
          simp only [core, zrA, zrS, zrM, zrL, zrE, reduceCtorEq, zrD, ziE, ziL, ziN, hn, g2, g3, g6, LA7, LB7, lA7, lB7, o1, o2, o3, o7]
          refine (Apply10_x ⟨b.epoch, dfL10 a b⟩ mT oka iea ieb cT (sz_aux4 hlen hl) hno hst).mono ?_
          rintro _ h8 ⟨e8, ro, rp, rb, rfl, m8⟩
          have q1 := m8.o.one
          have q2 := m8.p.one
          have q3 := m8.b.one
          have f8 := e8.1
          obtain ⟨m', hm'⟩ : ∃ m', m' = (applyD a ⟨b.epoch, dfL10 a b⟩).1 := ⟨_, rfl⟩
          obtain ⟨er, her⟩ : ∃ er, er = (applyD a ⟨b.epoch, dfL10 a b⟩).2 := ⟨_, rfl⟩
          rw [← hm'] at m8
          rw [← hm', ← her]
          obtain ⟨hD, hhD⟩ : ∃ hD, hD = h8.push (.cells [.lit (.int .i64 m'.epoch), ro, rp, rb, .lit (.int .i64 m'.leaf)] 26) := ⟨_, rfl⟩
          have eD8 : Ext h8.n h8 hD := hhD ▸ (Ext.refl _ _).push _ (Nat.le_refl _)
          have eD : Ext h7.n h7 hD := e8.trans (eD8.mono f8)
          have jD := j7.ext eD
          have DD : hD.at h8.n = some (.cells [.lit (.int .i64 m'.epoch), ro, rp, rb, .lit (.int .i64 m'.leaf)] 26) := hhD ▸ at_push_n _ _
          have LDD := ld_at (T := tabOf Try.prog NT0) DD
          have lDD := at_lt DD
          have mD := m8.ext eD8 (Nat.le_refl _)
          have LB9 := ld_at (T := tabOf Try.prog NT0) (keep _ jD.E).2
          have lB9 := at_lt (keep _ jD.E).2
          have EH : Ext H.n H hD := EB.trans (jD.E.mono (by omega))
          unfold mpV
          by_cases he : er = 0
          · have hen : (er != 0) = false := by rw [he]; rfl
            have okm : OkMp m' := hm' ▸ applyD_ok hst (her ▸ he)
            simp only [core, zrA, zrS, zrM, zrL, zrE, reduceCtorEq, zrD, ziE, ziL, ziN, hn, g2, g3, g6, q1, q2, q3, hen, LDD, lDD, LB9, lB9, p1, p2, p3, aundef, ← hhD]
            refine (sameR10_x mD (mb.ext jD.E (Nat.le_refl _)) okm).mono ?_
            rintro _ h9 ⟨e9, rfl⟩
            have j9 := jD.ext e9
            have EH9 := EH.trans (e9.mono EH.1)
            have o9 := j9.o.one
            by_cases hsm : m' = b
            · have hsd : sameD m' b = true := decide_eq_true hsm
              have hR : dfR a b (dfL10 a b) = (dfL10 a b, 0) := by unfold dfR; rw [if_pos ⟨her ▸ he, hm' ▸ hsm⟩]
              simp only [core, zrA, zrS, zrM, zrL, zrE, reduceCtorEq, zrD, ziE, ziL, ziN, hn, g2, g3, g6, hsd, aundef, o9, hR]
              exact ⟨EH9, s7, rfl, (j9.o.toSl (F := fun _ => True) (fun _ _ => trivial) (fun _ _ => trivial)).lift fun k _ hk => ⟨rfl, hk⟩⟩
            · have hsd : sameD m' b = false := decide_eq_false hsm
              have hR : dfR a b (dfL10 a b) = ([], 22) := by unfold dfR; rw [if_neg fun hh => hsm (hm' ▸ hh.2)]
              simp only [core, zrA, zrS, zrM, zrL, zrE, reduceCtorEq, zrD, ziE, ziL, ziN, hn, g2, g3, g6, hsd, aundef, hR]
              exact ⟨EH9, _, rfl, .nil⟩
          · have hen : (er != 0) = true := bne_iff_ne.2 he
            have hR : dfR a b (dfL10 a b) = ([], 22) := by unfold dfR; rw [if_neg fun hh => he (her ▸ hh.1)]
            simp only [core, zrA, zrS, zrM, zrL, zrE, reduceCtorEq, zrD, ziE, ziL, ziN, hn, g2, g3, g6, q1, q2, q3, hen, LDD, lDD, LB9, lB9, p1, p2, p3, aundef, hR, ← hhD]
            exact ⟨EH, _, rfl, .nil⟩
        have hc1 : (((k : Int) + 1) ≤ 3) = True := by simp only [eq_iff_iff, iff_true]; omega
        have hwk : IntKind.i64.wrap ((k : Int) + 1 + 1) = (((k + 1 : Nat) : Int) + 1) := (wrap_in (by omega) (by omega)).trans (by omega)
        obtain ⟨K, hK⟩ : ∃ K, K = b.buckets.length := ⟨_, rfl⟩
        have e3 := e3
        rw [← hK] at e3
        have hbn := bkN_len a b k
        have hgn := fm_len (chG_len b) a.buckets
        have hkN : k * b.buckets.length ≤ 2 * b.buckets.length := Nat.mul_le_mul_right _ (by omega)
        obtain ⟨L2, hL2⟩ : ∃ L2, L2 = L1 ++ (a.buckets.flatMap (chG b) ++ bkN a b k) := ⟨_, rfl⟩
        have hL2n : L2.length = L1.length + ((a.buckets.flatMap (chG b)).length + (bkN a b k).length) := by rw [hL2, List.length_append, List.length_append]
        rw [← hL2] at j
        simp only [core, zrA, zrS, zrM, zrL, zrE, reduceCtorEq, zrD, ziE, ziL, ziN, hn, g2, g3, g15, g6, hc1, LB, lB, t3, e3]
        refine WB_for K (fun i t h => (∃ s', TJ hb h (L2 ++ (b.buckets.take i).flatMap (chK a ((k : Int) + 1))) s' ∧ t.get 6 = s') ∧ t.n = 143 ∧ t.get 2 = .ptr H.n 0 ∧ t.get 3 = .ptr (H.n + 1) 0 ∧ t.get 15 = .lit (.int .i64 ((k : Int) + 1)) ∧ t.get 81 = ub ∧ t.get 82 = .lit (.int .i64 K) ∧ t.get 83 = .lit (.int .i64 i)) ?_ ?_ _ _ ?_
        · rintro i t h hlt hc ⟨⟨s', j, g6⟩, hn, g2, g3, g15, g81, g82, g83⟩ ih2
          have hwi := wrap_succ (n := K) hlt (by omega)
          have hlen := fm_len (chK_len a ((k : Int) + 1)) (b.buckets.take i)
          rw [List.length_take] at hlen
          obtain ⟨y, hy⟩ : ∃ y, b.buckets[i]? = some y := ⟨_, List.getElem?_eq_getElem (by omega)⟩
          have hym := List.mem_of_getElem? hy
          have hltp : i < b.buckets.length := by omega
          have f1 := j.E.1
          obtain ⟨cx, hcx, ld1, ld1'⟩ := (mb.ext j.E (Nat.le_refl _)).b.at (T := tabOf Try.prog NT0) RBkt_z hy
          obtain ⟨va, vw, rfl, xa, xw, ix⟩ := RBkt_is.1 hcx
          have y1 := xa.one
          have y2 := xw.one
          have hfs : (b.buckets.take (i + 1)).flatMap (chK a ((k : Int) + 1)) = (b.buckets.take i).flatMap (chK a ((k : Int) + 1)) ++ chK a ((k : Int) + 1) y := fm_succ hy
          have hsz : ((L2 ++ (b.buckets.take i).flatMap (chK a ((k : Int) + 1))).length + 1) * 120 ≤ 140737488355328 := by
            rw [show (L2 ++ (b.buckets.take i).flatMap (chK a ((k : Int) + 1))).length = L2.length + ((b.buckets.take i).flatMap (chK a ((k : Int) + 1))).length from List.length_append, hL2n, hL1n, Nat.add_assoc (L0.length + _)]
            refine sz_aux3 hL0n hPl ?_ hl
            have := Nat.min_le_left i b.buckets.length
            omega
          have hcI : (I64 (chB y).kind ∧ I64 (chB y).osd ∧ I64 (chB y).value) ∧ okP (chB y).pool ∧ I64 (chB y).bucket.id ∧ I64 (chB y).bucket.kind := ⟨⟨by show I64 6; unfold I64; decide, I64z, I64z⟩, okp0, ix.1, ix.2⟩
          obtain ⟨hA, hhA⟩ : ∃ hA, hA = h.push (.cells [.lit (.int .i64 y.id), .lit (.int .i64 y.kind), va, vw] 50) := ⟨_, rfl⟩
          have eA : Ext h.n h hA := hhA ▸ (Ext.refl _ _).push _ (Nat.le_refl _)
          have nA : hA.n = h.n + 1 := by rw [hhA, n_push]
          have P0 : hA.at h.n = some (.cells [.lit (.int .i64 y.id), .lit (.int .i64 y.kind), va, vw] 50) := hhA ▸ at_push_n _ _
          have LP0 := ld_at (T := tabOf Try.prog NT0) P0
          have lP0 := at_lt P0
          have LAA := ld_at (T := tabOf Try.prog NT0) (keep _ (j.ext eA).E).1
          have lAA := at_lt (keep _ (j.ext eA).E).1
          simp only [core, zrA, zrS, zrM, zrL, zrE, reduceCtorEq, zrD, ziE, ziL, ziN, hn, g2, g3, g15, g81, g82, g83, hlt, hc, t3, e3, ld1, ld1', y1, y2, LAA, lAA, LP0, lP0, o1, o2, o3, ← hhA]
          refine (bucketR_x y.id (ma.ext (j.ext eA).E (Nat.le_refl _)) la3).mono ?_
          rintro _ h3 ⟨e3', wa, ww, rfl, ya, yw⟩
          have y3 := ya.one
          have y4 := yw.one
          have e3h : Ext h.n h h3 := eA.trans (e3'.mono (by omega))
          obtain ⟨hB, hhB⟩ : ∃ hB, hB = h3.push (.cells [.lit (.int .i64 (bucketG a y.id).id), .lit (.int .i64 (bucketG a y.id).kind), wa, ww] 50) := ⟨_, rfl⟩
          have eB : Ext h3.n h3 hB := hhB ▸ (Ext.refl _ _).push _ (Nat.le_refl _)
          have B0' : hB.at h3.n = some (.cells [.lit (.int .i64 (bucketG a y.id).id), .lit (.int .i64 (bucketG a y.id).kind), wa, ww] 50) := hhB ▸ at_push_n _ _
          have LB0' := ld_at (T := tabOf Try.prog NT0) B0'
          have lB0' := at_lt B0'
          have e4h : Ext h.n h hB := e3h.trans (eB.mono (by have := e3h.1; omega))
          have P4 := (eB.2 _ (by have := e3'.1; omega)).trans ((e3'.2 _ lP0).trans P0)
          have LP4 := ld_at (T := tabOf Try.prog NT0) P4
          have lP4 := at_lt P4
          have os4 := j.o.isSl
          have oo4 := j.o.one
          have xaB := xa.ext e4h (Nat.le_refl _)
          have xwB := xw.ext e4h (Nat.le_refl _)
          have yaB := ya.ext eB (Nat.le_refl _)
          have ywB := yw.ext eB (Nat.le_refl _)
          have z1 := xa.isSl
          have z2 := xw.isSl
          have FH : ∀ k, F k → k < hb.n := fun k hk => by have := hF k hk; omega
          unfold bktV
          have skip : chK a ((k : Int) + 1) y = [] → ∀ (h' : AH) (t : TM), Ext h.n h h' → (t.get 6 = s' ∧ t.n = 143 ∧ t.get 2 = .ptr H.n 0 ∧ t.get 3 = .ptr (H.n + 1) 0 ∧ t.get 15 = .lit (.int .i64 ((k : Int) + 1)) ∧ t.get 81 = ub ∧ t.get 82 = .lit (.int .i64 K) ∧ t.get 83 = .lit (.int .i64 ((i + 1 : Nat) : Int))) → (∃ s', TJ hb h' (L2 ++ (b.buckets.take (i + 1)).flatMap (chK a ((k : Int) + 1))) s' ∧ t.get 6 = s') ∧ t.n = 143 ∧ t.get 2 = .ptr H.n 0 ∧ t.get 3 = .ptr (H.n + 1) 0 ∧ t.get 15 = .lit (.int .i64 ((k : Int) + 1)) ∧ t.get 81 = ub ∧ t.get 82 = .lit (.int .i64 K) ∧ t.get 83 = .lit (.int .i64 ((i + 1 : Nat) : Int)) := fun hn h' t e ht => ⟨⟨s', by rw [hfs, hn, List.append_nil]; exact j.ext e, ht.1⟩, ht.2⟩
          by_cases hkd : (y.kind == (k : Int) + 1) = true
          · have hkd' : y.kind = (k : Int) + 1 := eq_of_beq hkd
            by_cases hsm : (bucketF a y.id).isSome = true
            · have gok : Sm 8 (bucketG a y.id).items ∧ Sm 8 (bucketG a y.id).weights := by
                unfold bucketG
                by_cases hq : bucketF a y.id = none
                · rw [hq]; exact ⟨sm_nil, sm_nil⟩
                · obtain ⟨z, hq⟩ := Option.ne_none_iff_exists'.1 hq
                  rw [hq]
                  refine ha z ?_
                  unfold bucketF at hq
                  exact List.mem_of_find?_eq_some hq
              simp only [core, zrA, zrS, zrM, zrL, zrE, reduceCtorEq, zrD, ziE, ziL, ziN, hn, g2, g3, g15, g81, g82, g83, g6, y1, y2, y3, y4, LP4, lP4, LB0', lB0', hkd, hsm, aundef, ← hhB]
              refine (sameBktR_x y (bucketG a y.id) xaB xwB yaB ywB (hb' y hym).1 (hb' y hym).2).mono ?_
              rintro _ h5 ⟨e5, rfl⟩
              have e5h : Ext h.n h h5 := e4h.trans (e5.mono e4h.1)
              have P5 := (e5.2 _ lP4).trans P4
              have LP5 := ld_at (T := tabOf Try.prog NT0) P5
              have lP5 := at_lt P5
              by_cases hsb : sameB y (bucketG a y.id) = true
              · simp only [core, zrA, zrS, zrM, zrL, zrE, reduceCtorEq, zrD, ziE, ziL, ziN, hn, g2, g3, g15, g81, g82, g83, g6, hwi, hsb, aundef]
                refine ih2 _ _ (skip ?_ _ _ e5h ?_)
                · unfold chK
                  rw [if_neg fun hh => hh.2 ⟨hsm, by rw [sameB_comm]; exact hsb⟩]
                · refine ⟨?_, ?_⟩
                  all_goals simp only [core, zrA, zrS, zrM, zrL, zrE, reduceCtorEq, zrD, ziE, ziL, ziN, hn, g2, g3, g15, g81, g82, g83, g6]
              · have hck : chK a ((k : Int) + 1) y = [chB y] := by
                  unfold chK
                  rw [if_pos ⟨hkd', fun hh => hsb (by rw [sameB_comm]; exact hh.2)⟩]
                have hsb := eq_false_of_ne_true hsb
                simp only [core, zrA, zrS, zrM, zrL, zrE, reduceCtorEq, zrD, ziE, ziL, ziN, hn, g2, g3, g15, g81, g82, g83, g6, hsb, aundef, y1, y2, LP5, lP5]
                obtain ⟨hP, hhP⟩ : ∃ hP, hP = h5.push (.cells [.lit (.int .i64 6), .lit (.int .i64 0), .lit (.int .i64 0), .lit (.int .i64 0), .lit (.int .i64 0), .lit (.int .i64 0), .lit (.int .i64 0), .lit (.int .i64 y.id), .lit (.int .i64 y.kind), va, vw] 54) := ⟨_, rfl⟩
                have e6 : Ext h5.n h5 hP := hhP ▸ (Ext.refl _ _).push _ (Nat.le_refl _)
                have e6h := (e5h).trans (e6.mono (e5h).1)
                have PP : hP.at h5.n = some (.cells [.lit (.int .i64 6), .lit (.int .i64 0), .lit (.int .i64 0), .lit (.int .i64 0), .lit (.int .i64 0), .lit (.int .i64 0), .lit (.int .i64 0), .lit (.int .i64 y.id), .lit (.int .i64 y.kind), va, vw] 54) := hhP ▸ at_push_n _ _
                rw [← hhP]
                have key := j.push (x := chB y) e6h PP ((xa.ext e6h (Nat.le_refl _)).lift fun k hk _ => ⟨rfl, FH k hk⟩) ((xw.ext e6h (Nat.le_refl _)).lift fun k hk _ => ⟨rfl, FH k hk⟩) hcI hsz
                refine WOp_app key ?_
                rintro s6 h6 j6
                have w1 := j6.o.isSl
                have w2 := j6.o.one
                repeat (first | ((with_reducible refine WDM_cons ?_; simp only [dw1]; try simp only [dw2, zrA, zrM, zrR, zrO, zrE]); simp only [core, zrA, zrS, zrM, zrL, zrE, reduceCtorEq, zrD, ziE, ziL, ziN, cored, hn, g2, g3, g15, g81, g82, g83, g6, w1, w2, hwi]) | simp only [core, zrA, zrS, zrM, zrL, zrE, reduceCtorEq, zrD, ziE, ziL, ziN, cored, hn, g2, g3, g15, g81, g82, g83, g6, w1, w2, hwi])
                refine ih2 _ _ ⟨⟨s6, ?_, ?_⟩, ?_⟩
                · rw [hfs, hck, ← List.append_assoc]
                  exact j6
                all_goals simp only [core, zrA, zrS, zrM, zrL, zrE, reduceCtorEq, zrD, ziE, ziL, ziN, hn, g2, g3, g15, g81, g82, g83]
            · have hck : chK a ((k : Int) + 1) y = [chB y] := by
                unfold chK
                rw [if_pos ⟨hkd', fun hh => hsm hh.1⟩]
              have hsm := eq_false_of_ne_true hsm
              simp only [core, zrA, zrS, zrM, zrL, zrE, reduceCtorEq, zrD, ziE, ziL, ziN, hn, g2, g3, g15, g81, g82, g83, g6, y1, y2, y3, y4, LP4, lP4, LB0', lB0', hkd, hsm, aundef, ← hhB]
              obtain ⟨hP, hhP⟩ : ∃ hP, hP = hB.push (.cells [.lit (.int .i64 6), .lit (.int .i64 0), .lit (.int .i64 0), .lit (.int .i64 0), .lit (.int .i64 0), .lit (.int .i64 0), .lit (.int .i64 0), .lit (.int .i64 y.id), .lit (.int .i64 y.kind), va, vw] 54) := ⟨_, rfl⟩
              have e6 : Ext hB.n hB hP := hhP ▸ (Ext.refl _ _).push _ (Nat.le_refl _)
              have e6h := (e4h).trans (e6.mono (e4h).1)
              have PP : hP.at hB.n = some (.cells [.lit (.int .i64 6), .lit (.int .i64 0), .lit (.int .i64 0), .lit (.int .i64 0), .lit (.int .i64 0), .lit (.int .i64 0), .lit (.int .i64 0), .lit (.int .i64 y.id), .lit (.int .i64 y.kind), va, vw] 54) := hhP ▸ at_push_n _ _
              rw [← hhP]
              have key := j.push (x := chB y) e6h PP ((xa.ext e6h (Nat.le_refl _)).lift fun k hk _ => ⟨rfl, FH k hk⟩) ((xw.ext e6h (Nat.le_refl _)).lift fun k hk _ => ⟨rfl, FH k hk⟩) hcI hsz
              refine WOp_app key ?_
              rintro s6 h6 j6
              have w1 := j6.o.isSl
              have w2 := j6.o.one
              repeat (first | ((with_reducible refine WDM_cons ?_; simp only [dw1]; try simp only [dw2, zrA, zrM, zrR, zrO, zrE]); simp only [core, zrA, zrS, zrM, zrL, zrE, reduceCtorEq, zrD, ziE, ziL, ziN, cored, hn, g2, g3, g15, g81, g82, g83, g6, w1, w2, hwi]) | simp only [core, zrA, zrS, zrM, zrL, zrE, reduceCtorEq, zrD, ziE, ziL, ziN, cored, hn, g2, g3, g15, g81, g82, g83, g6, w1, w2, hwi])
              refine ih2 _ _ ⟨⟨s6, ?_, ?_⟩, ?_⟩
              · rw [hfs, hck, ← List.append_assoc]
                exact j6
              all_goals simp only [core, zrA, zrS, zrM, zrL, zrE, reduceCtorEq, zrD, ziE, ziL, ziN, hn, g2, g3, g15, g81, g82, g83]
          · have hkf := eq_false_of_ne_true hkd
            simp only [core, zrA, zrS, zrM, zrL, zrE, reduceCtorEq, zrD, ziE, ziL, ziN, hn, g2, g3, g15, g81, g82, g83, g6, y1, y2, y3, y4, LP4, lP4, LB0', lB0', hkf, hwi, aundef, ← hhB]
            refine ih2 _ _ (skip ?_ _ _ e4h ?_)
            · unfold chK
              rw [if_neg fun hh => hkd (beq_iff_eq.2 hh.1)]
            · refine ⟨?_, ?_⟩
              all_goals simp only [core, zrA, zrS, zrM, zrL, zrE, reduceCtorEq, zrD, ziE, ziL, ziN, hn, g2, g3, g15, g81, g82, g83, g6]
        · rintro t h hc ⟨⟨s', j, g6⟩, hn, g2, g3, g15, g81, g82, g83⟩
          rw [List.take_of_length_le (by omega)] at j
          simp only [core, zrA, zrS, zrM, zrL, zrE, reduceCtorEq, zrD, ziE, ziL, ziN, hn, g2, g3, g15, g81, g82, g83, g6, hc, hwk]
          refine ih (k + 1) _ _ ⟨by omega, ⟨s', ?_, ?_⟩, ?_⟩ (by omega)
          · rw [show L1 ++ (a.buckets.flatMap (chG b) ++ bkN a b (k + 1)) = L2 ++ b.buckets.flatMap (chK a ((k : Int) + 1)) by
              rw [hL2, List.append_assoc, List.append_assoc]; rfl]
            exact j
          all_goals simp only [core, zrA, zrS, zrM, zrL, zrE, reduceCtorEq, zrD, ziE, ziL, ziN, hn, g2, g3, g15, g81, g82, g83, g6]
        · refine ⟨⟨s', by simpa using j, ?_⟩, ?_⟩
          all_goals simp only [core, zrA, zrS, zrM, zrL, zrE, reduceCtorEq, zrD, ziE, ziL, ziN, hn, g2, g3, g15, g6]
          first | done | exact ⟨rfl, rfl⟩ | trivial
      · refine ⟨by omega, ⟨s', by simpa [bkN] using j, ?_⟩, ?_⟩
        all_goals simp only [core, zrA, zrS, zrM, zrL, zrE, reduceCtorEq, zrD, ziE, ziL, ziN, hn, g2, g3, g53, g54, g55, g6]
        first | done | trivial
    · refine ⟨⟨s', by simpa using j, ?_⟩, ?_⟩
      all_goals simp only [core, zrA, zrS, zrM, zrL, zrE, reduceCtorEq, zrD, ziE, ziL, ziN, hn, g2, g3, g26, g27, g28, g6]
      first | done | exact ⟨rfl, rfl⟩ | trivial
  · refine ⟨⟨s1', by simpa using j1, ?_⟩, ?_⟩
    all_goals simp only [core, zrA, zrS, zrM, zrL, zrE, reduceCtorEq, zrD, ziE, ziL, ziN]
    first | done | exact ⟨rfl, rfl⟩ | trivial
end Go.Proofs.Ytmfhagahkkhbeaa.Ex
end

section

set_option linter.unusedSimpArgs false
set_option linter.unusedVariables false
set_option maxRecDepth 10000
set_option maxHeartbeats 4000000
namespace Go.Proofs.Ytmfhagahkkhbeaa.Ex
open Go
theorem made_len (m : MapD) (c : ChD) : m.osds.length ≤ (chMade m c).osds.length := by
  unfold chMade
  split
  · exact Nat.le_refl _
  split
  · exact Nat.le_refl _
  split
  · exact Nat.le_refl _
  · show _ ≤ ((growO _ _).set _ _).length
    rw [set_len]
    omega
theorem newOs_ex {e : Int} {o : OsdD} {k v : Int} (h : k ≠ 1) : (newOs e o k v).ex = o.ex := by
  unfold newOs
  rw [if_neg h]
  split
  · rfl
  split <;> rfl
theorem made_ex {m : MapD} {c : ChD} {n : Nat} (hm : chMay m c = 0) (hn : c.kind = 1 → c.osd ≠ (n : Int)) : ((chMade m c).osds.getD n osd0).ex = (m.osds.getD n osd0).ex := by
  unfold chMay at hm
  unfold chMade
  by_cases k5 : c.kind = 5
  · rw [if_pos k5]
  by_cases k6 : c.kind = 6
  · rw [if_neg k5, if_pos k6]; rfl
  by_cases k7 : c.kind = 7
  · rw [if_neg k5, if_neg k6, if_pos k7]
  rw [if_neg k5, if_neg k6, if_neg k7] at hm ⊢
  by_cases ki : isOs c.kind
  · rw [if_pos ki] at hm
    by_cases ho : c.osd < 0 ∨ 8 ≤ c.osd
    · rw [if_pos ho] at hm; cases hm
    show (((growO m.osds _).set _ _).getD n osd0).ex = _
    rw [set_get]
    by_cases hk : n = c.osd.toNat
    · rw [if_pos hk, newOs_ex (fun h1 => hn h1 (by omega)), osdG_get (by omega), hk]
    · rw [if_neg hk]
  · rw [if_neg ki] at hm
    cases hm
def NoUp (n : Nat) (l : List ChD) : Prop := ∀ c ∈ l, c.kind = 1 → c.osd ≠ (n : Int)
theorem applyC_keep {n : Nat} : ∀ {l : List ChD} {m : MapD}, (applyC m l).2 = 0 → m.osds.length ≤ (applyC m l).1.osds.length ∧ (NoUp n l → ((applyC m l).1.osds.getD n osd0).ex = (m.osds.getD n osd0).ex)
  | [], m, _ => ⟨Nat.le_refl _, fun _ => rfl⟩
  | c :: r, m, h0 => by
    unfold applyC at h0 ⊢
    by_cases hm : chMay m c = 0
    · rw [if_pos hm] at h0 ⊢
      obtain ⟨a, b⟩ := applyC_keep (n := n) h0
      refine ⟨Nat.le_trans (made_len m c) a, fun hn => ?_⟩
      rw [b fun d hd => hn d (by simp [hd]), made_ex hm (hn c (by simp))]
    · rw [if_neg hm] at h0
      exact absurd h0 hm
theorem applyD_keep {a : MapD} {x : IncD} {n : Nat} (h0 : (applyD a x).2 = 0) : a.osds.length ≤ (applyD a x).1.osds.length ∧ (NoUp n x.changes → ((applyD a x).1.osds.getD n osd0).ex = (a.osds.getD n osd0).ex) := by
  unfold applyD at h0 ⊢
  by_cases he : a.epoch = 9223372036854775807 ∨ ¬ x.epoch = a.epoch + 1
  · rw [if_pos he] at h0; cases h0
  rw [if_neg he] at h0 ⊢
  by_cases ha : (applyC a x.changes).2 = 0
  · rw [if_pos ha]
    exact applyC_keep ha
  · rw [if_neg ha] at h0
    exact absurd h0 ha
theorem dfR_no {a b : MapD} {l : List ChD} (h : (applyD a ⟨b.epoch, l⟩).2 = 0 → (applyD a ⟨b.epoch, l⟩).1 ≠ b) : dfR a b l = ([], 22) := by
  unfold dfR
  rw [if_neg fun hh => h hh.1 hh.2]
theorem NoUp.append {n : Nat} {l m : List ChD} (a : NoUp n l) (b : NoUp n m) : NoUp n (l ++ m) := fun c hc => (List.mem_append.1 hc).elim (a c) (b c)
theorem NoUp.nil {n : Nat} : NoUp n [] := fun c hc => by cases hc
theorem NoUp.one {n : Nat} {c : ChD} (h : c.kind = 1 → c.osd ≠ (n : Int)) : NoUp n [c] := fun d hd => by
  obtain rfl := List.mem_singleton.1 hd
  exact h
theorem NoUp.ifs {n : Nat} {P : Prop} [Decidable P] {l m : List ChD} (a : P → NoUp n l) (b : ¬ P → NoUp n m) : NoUp n (if P then l else m) := by
  split
  · exact a ‹_›
  · exact b ‹_›
theorem NoUp.fm {n : Nat} {α : Type} {f : α → List ChD} {l : List α} (h : ∀ x ∈ l, NoUp n (f x)) : NoUp n (l.flatMap f) := fun c hc => by
  obtain ⟨x, hx, hc⟩ := List.mem_flatMap.1 hc
  exact h x hx c hc
def Bad (a b : MapD) (n : Nat) : Prop := (osdG a n).ex = false ∧ (osdG b n).ex = true ∧ (osdG b n).boot = (osdG a n).boot
theorem osL_noUp {w : OsdD → OsdD → Int} {a b : MapD} {n : Nat} (hb : Bad a b n) : ∀ k, NoUp n (osL w a b k)
  | 0 => .nil
  | k + 1 => by
    unfold osL oneC
    refine (osL_noUp hb k).append (.append (.ifs (fun _ => .one fun h => by cases (show (2 : Int) = 1 from h)) fun _ => .nil) (.append (.ifs (fun hc => .one fun _ hk => ?_) fun _ => .nil) (.append (.ifs (fun _ => .one fun h => by cases (show (3 : Int) = 1 from h)) fun _ => .nil) (.ifs (fun _ => .one fun h => by cases (show (4 : Int) = 1 from h)) fun _ => .nil))))
    have hk : (k : Int) = (n : Int) := hk
    have hk : k = n := by omega
    subst hk
    exact hc.2 hb.2.2
theorem bkN_noUp {a b : MapD} {n : Nat} : ∀ k, NoUp n (bkN a b k)
  | 0 => .nil
  | k + 1 => by
    unfold bkN chK
    exact (bkN_noUp k).append (.fm fun x _ => .ifs (fun _ => .one fun h => by cases (show (6 : Int) = 1 from h)) fun _ => .nil)
theorem rsL_noUp {a b : MapD} {n : Nat} : NoUp n (rsL a b) := by
  unfold rsL bkL chP chG chL
  exact .append (.fm fun x _ => .ifs (fun _ => .nil) fun _ => .one fun h => by cases (show (5 : Int) = 1 from h)) (.append (.append (.fm fun x _ => .ifs (fun _ => .nil) fun _ => .one fun h => by cases (show (6 : Int) = 1 from h)) (bkN_noUp 3)) (.ifs (fun _ => .nil) fun _ => .one fun h => by cases (show (7 : Int) = 1 from h)))
theorem wP_eq {x y : OsdD} (h : ¬ (x.ex = false ∧ y.ex = true ∧ y.boot = x.boot)) : wP x y = wD x y := by
  unfold wP wD
  by_cases h1 : x.ex = false
  · by_cases h2 : y.ex = true
    · have h3 : y.boot ≠ x.boot := fun hh => h ⟨h1, h2, hh⟩
      rw [if_pos ⟨⟨h2, h3⟩, h1⟩, if_pos ⟨h1, h2⟩]
    · rw [if_neg fun hh => h2 hh.1.1, if_neg fun hh => h2 hh.2]
  · rw [if_neg fun hh => h1 hh.2, if_neg fun hh => h1 hh.1]
theorem osL_eq {a b : MapD} : ∀ {k : Nat}, (∀ n, n < k → ¬ Bad a b n) → osL wP a b k = osL wD a b k
  | 0, _ => rfl
  | k + 1, h => by
    unfold osL
    rw [osL_eq (k := k) fun n hn => h n (by omega), wP_eq (h k (by omega))]
theorem diff_eq (a b : MapD) : dfR a b (dfL a b) = dfR a b (dfL10 a b) := by
  by_cases hl : a.osds.length ≤ b.osds.length
  · by_cases hb : ∃ n, n < b.osds.length ∧ Bad a b n
    · obtain ⟨n, hn, hb⟩ := hb
      have key : ∀ l, NoUp n l → (applyD a ⟨b.epoch, l⟩).2 = 0 → (applyD a ⟨b.epoch, l⟩).1 ≠ b := fun l hu h0 he => by
        have := (applyD_keep (n := n) h0).2 hu
        have h1 := hb.1
        have h2 := hb.2.1
        rw [osdG_get (by omega), show ((n : Nat) : Int).toNat = n from rfl] at h1 h2
        rw [he, h1, h2] at this
        cases this
      exact (dfR_no (key _ ((osL_noUp hb _).append rsL_noUp))).trans (dfR_no (key _ ((osL_noUp hb _).append rsL_noUp))).symm
    · unfold dfL dfL10
      rw [Nat.max_eq_right hl, osL_eq fun n hn hh => hb ⟨n, hn, hh⟩]
  · have key : ∀ l, (applyD a ⟨b.epoch, l⟩).2 = 0 → (applyD a ⟨b.epoch, l⟩).1 ≠ b := fun l h0 he => by
      have := (applyD_keep (n := 0) h0).1
      rw [he] at this
      omega
    exact (dfR_no (key _)).trans (dfR_no (key _)).symm
end Go.Proofs.Ytmfhagahkkhbeaa.Ex
end

section

set_option linter.unusedSimpArgs false
set_option linter.unusedVariables false
set_option maxRecDepth 10000
set_option maxHeartbeats 4000000
namespace Go.Proofs.Ytmfhagahkkhbeaa.Ex
open Go
/-- What buckets the changes of a list bear. -/
def AllB (P : BktD → Prop) (l : List ChD) : Prop := ∀ c ∈ l, P c.bucket
theorem AllB.append {P : BktD → Prop} {l m : List ChD} (a : AllB P l) (b : AllB P m) : AllB P (l ++ m) := fun c hc => (List.mem_append.1 hc).elim (a c) (b c)
theorem AllB.ifs {P : BktD → Prop} {Q : Prop} [Decidable Q] {l m : List ChD} (a : AllB P l) (b : AllB P m) : AllB P (if Q then l else m) := by split <;> assumption
theorem AllB.nil {P : BktD → Prop} : AllB P [] := fun c hc => by cases hc
theorem AllB.one {P : BktD → Prop} {c : ChD} (h : P c.bucket) : AllB P [c] := fun d hd => by
  obtain rfl := List.mem_singleton.1 hd
  exact h
theorem AllB.fm {P : BktD → Prop} {α : Type} {f : α → List ChD} {l : List α} (h : ∀ x ∈ l, AllB P (f x)) : AllB P (l.flatMap f) := fun c hc => by
  obtain ⟨x, hx, hc⟩ := List.mem_flatMap.1 hc
  exact h x hx c hc
theorem osL_all {P : BktD → Prop} (h0 : P bkt0) (w : OsdD → OsdD → Int) (a b : MapD) : ∀ n, AllB P (osL w a b n)
  | 0 => .nil
  | n + 1 => by
    unfold osL oneC
    exact (osL_all h0 w a b n).append (.append (.ifs (.one h0) .nil) (.append (.ifs (.one h0) .nil) (.append (.ifs (.one h0) .nil) (.ifs (.one h0) .nil))))
theorem bkN_all {P : BktD → Prop} {a b : MapD} (hb : ∀ x ∈ b.buckets, P x) : ∀ n, AllB P (bkN a b n)
  | 0 => .nil
  | n + 1 => by
    unfold bkN chK
    exact (bkN_all hb n).append (.fm fun x hx => .ifs (.one (hb x hx)) .nil)
theorem rsL_all {P : BktD → Prop} {a b : MapD} (h0 : P bkt0) (h1 : ∀ i, P ⟨i, 0, [], []⟩) (hb : ∀ x ∈ b.buckets, P x) : AllB P (rsL a b) := by
  unfold rsL bkL chP chG chL
  exact .append (.fm fun x _ => .ifs .nil (.one h0)) (.append (.append (.fm fun x _ => .ifs .nil (.one (h1 _))) (bkN_all hb 3)) (.ifs .nil (.one h0)))
theorem finds_len (a b : MapD) {k : Nat} (ha : StOk a k) (hb : StOk b k) : (4 * max a.osds.length b.osds.length + (b.pools.length + a.buckets.length + 3 * b.buckets.length + 1)) ≤ 33 + 5 * k := by
  have h1 := ha.no
  have h2 := hb.no
  have h3 := ha.nb
  have h4 := hb.nb
  have h5 := hb.np
  have h6 : max a.osds.length b.osds.length ≤ 8 := Nat.max_le.2 ⟨h1, h2⟩
  omega
theorem dfL_len' (a b : MapD) : (dfL a b).length ≤ 4 * max a.osds.length b.osds.length + (b.pools.length + a.buckets.length + 3 * b.buckets.length + 1) := by
  have h1 := osL_len wP a b (max a.osds.length b.osds.length)
  have h2 := rsL_len a b
  unfold dfL
  rw [List.length_append]
  omega
theorem dfL10_len' (a b : MapD) : (dfL10 a b).length ≤ 4 * max a.osds.length b.osds.length + (b.pools.length + a.buckets.length + 3 * b.buckets.length + 1) := by
  have h1 := osL_len wD a b b.osds.length
  have h2 := rsL_len a b
  have h3 := Nat.le_max_right a.osds.length b.osds.length
  unfold dfL10
  rw [List.length_append]
  omega
theorem finds_run {a b : MapD} {k : Nat} (ha : StOk a k) (hb : StOk b k) (hk : k ≤ 60000) {l : List ChD} (hl : l.length ≤ 33 + 5 * k) (hi : AllB (fun x => x.items.length ≤ 300) l) :
    ∀ i n, i ≤ l.length → applyC a (l.take i) = (n, 0) → MpSz n ∧ OkMp n := fun i n _ hn => by
  have h := ha.run (j := i) hi hn
  exact ⟨h.sz (by omega), h.ok (by omega)⟩
theorem finds_m {F : Nat → Prop} {H : AH} {v vl : AV} {l : List IncD} {last : List ChD} (hl : IsSl RInc F H v l) (hc0 : IsSl RCh F H vl last) (sl : Sm 32 l) (hok : ∀ x ∈ l, OkInc x) (hokl : OkInc ⟨0, last⟩) :
    WC Try.prog (tabOf Try.prog NT0) S0 4 [v, vl] H fun r h' => r = .lit (.bool true) := by
  refine WC_fn Try.func4 rfl rfl ?_
  have s1 := hl.isSl
  have d1 := hl.lenD
  have c1 := hl.one
  have w1 := hc0.isSl
  have w2 := hc0.lenD
  have w3 := hc0.one
  obtain ⟨j1, j2⟩ := hokl
  unfold Sm at sl
  obtain ⟨N, hN⟩ : ∃ N, N = l.length := ⟨_, rfl⟩
  rw [← hN] at d1
  by_cases c40 : (40 : Int) < (N : Int)
  · simp only [core, zrA, zrS, zrM, zrL, zrE, reduceCtorEq, zrD, ziE, ziL, ziN, Try.ntmps4, s1, d1, c1, w3, c40, aundef]
    refine awake10_c ?_
    simp only [core, zrA, zrS, zrM, zrL, zrE, reduceCtorEq, zrD, ziE, ziL, ziN]
    try simp
  simp only [core, zrA, zrS, zrM, zrL, zrE, reduceCtorEq, zrD, ziE, ziL, ziN, Try.ntmps4, s1, d1, c1, w3, c40]
  refine (wide_x (F := F) (m := map0) (l := last) at0 hc0 (by unfold Sm map0; simp) j1).mono ?_
  rintro _ h0 ⟨e0, rfl⟩
  by_cases hwl : wideF map0 last = true
  · simp only [core, zrA, zrS, zrM, zrL, zrE, reduceCtorEq, zrD, ziE, ziL, ziN, hwl]
    refine awake10_c ?_
    simp only [core, zrA, zrS, zrM, zrL, zrE, reduceCtorEq, zrD, ziE, ziL, ziN]
    try simp
  have hwl : wideF map0 last = false := by simpa using hwl
  simp only [core, zrA, zrS, zrM, zrL, zrE, reduceCtorEq, zrD, ziE, ziL, ziN, hwl, s1, d1, c1]
  refine WB_for N (fun i t h => Ext H.n H h ∧ (∀ x ∈ l.take i, wideF map0 x.changes = false) ∧ t.n = 100 ∧ t.get 0 = v ∧ t.get 1 = vl ∧ t.get 23 = v ∧ t.get 24 = .lit (.int .i64 N) ∧ t.get 25 = .lit (.int .i64 i)) ?_ ?_ _ _ ?_
  · rintro i t h hlt hc ⟨EH, hnw, hn, g0, g1, g23, g24, g25⟩ ih
    obtain ⟨x, hx⟩ : ∃ x, l[i]? = some x := ⟨_, List.getElem?_eq_getElem (by omega)⟩
    have hxm := List.mem_of_getElem? hx
    obtain ⟨cc, hc1, hld, hld0⟩ := hl.atE (T := tabOf Try.prog NT0) EH RInc_z hx
    obtain ⟨vc, rfl, hcs, hex⟩ := RInc_is.1 hc1
    have v1 := hcs.one
    have v2 := hcs.isSl
    have v3 := hcs.lenD
    obtain ⟨k1, k2⟩ := hok x hxm
    have hwi := wrap_succ (n := N) hlt (by omega)
    obtain ⟨hA, hhA⟩ : ∃ hA, hA = h.push (.cells [.lit (.int .i64 x.epoch), vc] 39) := ⟨_, rfl⟩
    have eA : Ext h.n h hA := hhA ▸ (Ext.refl _ _).push _ (Nat.le_refl _)
    have XA : hA.at h.n = some (.cells [.lit (.int .i64 x.epoch), vc] 39) := hhA ▸ at_push_n _ _
    have LXA := ld_at (T := tabOf Try.prog NT0) XA
    have lXA := at_lt XA
    have EA := EH.step eA
    simp only [core, zrA, zrS, zrM, zrL, zrE, reduceCtorEq, zrD, ziE, ziL, ziN, s1, d1, hn, g0, g1, g23, g24, g25, hlt, hc, hld, hld0, v1, v2, v3, ← hhA, LXA, lXA]
    refine (wide_x (F := F) (m := map0) (l := x.changes) at0 (hcs.ext EA (Nat.le_refl _)) (by unfold Sm map0; simp) k1).mono ?_
    rintro _ h2 ⟨e2, rfl⟩
    have E2 := EA.step e2
    by_cases hw : wideF map0 x.changes = true
    · simp only [core, zrA, zrS, zrM, zrL, zrE, reduceCtorEq, zrD, ziE, ziL, ziN, hn, g0, g1, g23, g24, g25, hw]
      refine awake10_c ?_
      simp only [core, zrA, zrS, zrM, zrL, zrE, reduceCtorEq, zrD, ziE, ziL, ziN, hn, g0, g1, g23, g24, g25]
      try simp
    · have hw : wideF map0 x.changes = false := by simpa using hw
      simp only [core, zrA, zrS, zrM, zrL, zrE, reduceCtorEq, zrD, ziE, ziL, ziN, hn, g0, g1, g23, g24, g25, hw, hwi]
      refine ih _ _ ⟨E2, fun y hy => ?_, ?_⟩
      · rw [List.take_add_one, hx, List.mem_append] at hy
        rcases hy with hy | hy
        · exact hnw y hy
        · simp only [Option.toList_some, List.mem_singleton] at hy
          rw [hy]; exact hw
      · simp only [core, zrA, zrS, zrM, zrL, zrE, reduceCtorEq, zrD, ziE, ziL, ziN, hn, g0, g1, g23, g24, g25]
  · rintro t h hc ⟨EH, hnw, hn, g0, g1, g23, g24, g25⟩
    rw [hN, List.take_length] at hnw
    have hN40 : l.length ≤ 40 := by omega
    have hwn : ∀ x ∈ l, x.changes.length ≤ 300 ∧ ∀ c ∈ x.changes, c.bucket.items.length ≤ 300 := fun x hx => wide_no (hnw x hx) fun c hc => ((hok x hx).2 c hc).2.1
    have hit : ∀ x ∈ l, ∀ c ∈ x.changes, c.bucket.items.length ≤ 300 := fun x hx => (hwn x hx).2
    have hlw := wide_no hwl fun c hc => (j2 c hc).2.1
    have hsz : ∀ x ∈ l, Sm 88 x.changes ∧ ∀ c ∈ x.changes, Sm 8 c.bucket.items ∧ Sm 8 c.bucket.weights := fun x hx => ⟨(hok x hx).1, fun c hc => ((hok x hx).2 c hc).2⟩
    have hcn : chgN l ≤ 12000 := by
      have key : ∀ (q : List IncD), (∀ x ∈ q, x.changes.length ≤ 300) → chgN q ≤ q.length * 300 := by
        intro q
        induction q with
        | nil => intro _; simp [chgN]
        | cons a r ih =>
          intro h
          have h1 := ih fun y hy => h y (by simp [hy])
          have h2 := h a (by simp)
          unfold chgN at h1 ⊢
          rw [List.map_cons, List.sum_cons, List.length_cons, Nat.succ_mul]
          omega
      have h1 := key l fun y hy => (hwn y hy).1
      omega
    simp only [core, zrA, zrS, zrM, zrL, zrE, reduceCtorEq, zrD, ziE, ziL, ziN, s1, d1, c1, hn, g0, g1, g23, g24, g25, hc]
    refine (Play_x l (hl.ext EH (Nat.le_refl _)) (by omega) (by omega) hit hsz).mono ?_
    rintro _ h1 ⟨e1, rv, rfl, i1⟩
    have E1 := EH.step e1
    have r1 := i1.one
    have r2 := i1.isSl
    have r3 := i1.lenD
    simp only [core, zrA, zrS, zrM, zrL, zrE, reduceCtorEq, zrD, ziE, ziL, ziN, r1, c1, hn, g0, g1, g23, g24, g25]
    refine (num_x _).mono ?_
    rintro _ h3 ⟨rfl, rfl⟩
    by_cases hpe : (playD l).2 = 0
    · have hpe2 : ((playD l).2 != 0) = false := by rw [hpe]; rfl
      have hL := playC_len (r := l) (l := [map0]) hpe
      have hL : (playD l).1.length = N + 1 := by
        simp only [List.length_singleton] at hL
        unfold playD
        omega
      have pok := playC_ok plOk0 (r := l) hit hpe
      rw [Nat.zero_add] at pok
      have pok : PlOk (playD l).1 (chgN l) := pok
      obtain ⟨ms, hms⟩ : ∃ ms, ms = (playD l).1 := ⟨_, rfl⟩
      rw [← hms] at pok hL i1
      rw [← hms, hL] at r3
      obtain ⟨m, hm⟩ : ∃ m, ms[N]? = some m := ⟨_, List.getElem?_eq_getElem (by omega)⟩
      obtain ⟨hep, hst⟩ := pok.st N m hm
      have hwN : IntKind.i64.wrap ((N : Int) + 1) = ((N + 1 : Nat) : Int) := (wrap_in (by omega) (by omega)).trans (by omega)
      have hne1 : (((N + 1 : Nat) : Int) != ((N + 1 : Nat) : Int)) = false := by simp
      have hlt1 : N < N + 1 := Nat.lt_succ_self N
      obtain ⟨cm, hcm, ld1, ld1'⟩ := i1.at (T := tabOf Try.prog NT0) RMp_z hm
      obtain ⟨vo, vp, vb, rfl, a1, a2, a3, iem, ilm⟩ := RMp_is.1 hcm
      have x1 := a1.one
      have x2 := a2.one
      have x3 := a3.one
      obtain ⟨hA, hhA⟩ : ∃ hA, hA = h3.push (.cells [.lit (.int .i64 m.epoch), vo, vp, vb, .lit (.int .i64 m.leaf)] 26) := ⟨_, rfl⟩
      have eA : Ext h3.n h3 hA := hhA ▸ (Ext.refl _ _).push _ (Nat.le_refl _)
      have nA : hA.n = h3.n + 1 := by rw [hhA, n_push]
      have A0 : hA.at h3.n = some (.cells [.lit (.int .i64 m.epoch), vo, vp, vb, .lit (.int .i64 m.leaf)] 26) := hhA ▸ at_push_n _ _
      have LA0 := ld_at (T := tabOf Try.prog NT0) A0
      have lA0 := at_lt A0
      have mA : MpAt (fun k => k < hA.n) hA m vo vp vb := ⟨(a1.ext eA (Nat.le_refl _)).lift fun k _ hk => ⟨rfl, hk⟩, (a2.ext eA (Nat.le_refl _)).lift fun k _ hk => ⟨rfl, hk⟩, (a3.ext eA (Nat.le_refl _)).lift fun k _ hk => ⟨rfl, hk⟩⟩
      have mT : MpAt (fun _ => True) hA m vo vp vb := ⟨mA.o.lift fun _ _ _ => ⟨rfl, trivial⟩, mA.p.lift fun _ _ _ => ⟨rfl, trivial⟩, mA.b.lift fun _ _ _ => ⟨rfl, trivial⟩⟩
      have EA := E1.trans (eA.mono E1.1)
      have hcT : IsSl RCh (fun _ => True) hA vl last := (hc0.ext EA (Nat.le_refl _)).lift fun _ _ _ => ⟨rfl, trivial⟩
      have okm := hst.ok (by omega)
      simp only [core, zrA, zrS, zrM, zrL, zrE, reduceCtorEq, zrD, ziE, ziL, ziN, hn, g0, g1, g23, g24, g25, hpe2, r1, r2, r3, s1, d1, c1, hwN, hne1, hlt1, ld1, ld1', x1, x2, x3, w3, LA0, lA0, ← hhA]
      refine (Apply_x ⟨((N + 1 : Nat) : Int), last⟩ mT okm (by have := hst.nb; omega) iem hcT j1 (fun c hc => (j2 c hc).2) (fun i n _ hn => (hst.run hlw.2 hn).sz (by omega))).mono ?_
      rintro _ h5 ⟨e5, ro, rp, rb, rfl, m5⟩
      have q1 := m5.o.one
      have q2 := m5.p.one
      have q3 := m5.b.one
      obtain ⟨n, hnd⟩ : ∃ n, n = (applyD m ⟨((N + 1 : Nat) : Int), last⟩).1 := ⟨_, rfl⟩
      obtain ⟨er, her⟩ : ∃ er, er = (applyD m ⟨((N + 1 : Nat) : Int), last⟩).2 := ⟨_, rfl⟩
      rw [← hnd] at m5
      rw [← hnd, ← her]
      obtain ⟨hB, hhB⟩ : ∃ hB, hB = h5.push (.cells [.lit (.int .i64 n.epoch), ro, rp, rb, .lit (.int .i64 n.leaf)] 26) := ⟨_, rfl⟩
      have eB : Ext h5.n h5 hB := hhB ▸ (Ext.refl _ _).push _ (Nat.le_refl _)
      have nB : hB.n = h5.n + 1 := by rw [hhB, n_push]
      have B0 : hB.at h5.n = some (.cells [.lit (.int .i64 n.epoch), ro, rp, rb, .lit (.int .i64 n.leaf)] 26) := hhB ▸ at_push_n _ _
      have LB0 := ld_at (T := tabOf Try.prog NT0) B0
      have lB0 := at_lt B0
      have eAB : Ext hA.n hA hB := e5.trans (eB.mono e5.1)
      have A1 := (eAB.2 _ lA0).trans A0
      have LA1 := ld_at (T := tabOf Try.prog NT0) A1
      have lA1 := at_lt A1
      unfold mpV
      simp only [core, zrA, zrS, zrM, zrL, zrE, reduceCtorEq, zrD, ziE, ziL, ziN, hn, g0, g1, g23, g24, g25, q1, q2, q3, ← hhB]
      refine (num_x _).mono ?_
      rintro _ h6 ⟨rfl, rfl⟩
      by_cases hez : er = 0
      · have hez2 : (er != 0) = false := by rw [hez]; rfl
        have hsn := applyD_st (x := ⟨((N + 1 : Nat) : Int), last⟩) hst hlw.2 (her ▸ hez)
        rw [← hnd] at hsn
        obtain ⟨stn, -, epn⟩ := hsn
        have hk : chgN l + last.length ≤ 60000 := by have := hlw.1; omega
        have stn : StOk n (chgN l + last.length) := stn
        have stm : StOk m (chgN l + last.length) := hst.mono (by omega)
        have okn := stn.ok (by omega)
        have ien : I64 n.epoch := by unfold I64; omega
        have iln : I64 n.leaf := stn.leaf
        have mA2 : MpAt (fun k => k < h6.n) h6 m vo vp vb := ⟨(mA.o.ext eAB (Nat.le_refl _)).lift fun k _ hk => ⟨rfl, hk⟩, (mA.p.ext eAB (Nat.le_refl _)).lift fun k _ hk => ⟨rfl, hk⟩, (mA.b.ext eAB (Nat.le_refl _)).lift fun k _ hk => ⟨rfl, hk⟩⟩
        have mB2 : MpAt (fun k => k < h6.n) h6 n ro rp rb := ⟨(m5.o.ext eB (Nat.le_refl _)).lift fun k _ hk => ⟨rfl, hk⟩, (m5.p.ext eB (Nat.le_refl _)).lift fun k _ hk => ⟨rfl, hk⟩, (m5.b.ext eB (Nat.le_refl _)).lift fun k _ hk => ⟨rfl, hk⟩⟩
        have hfl := finds_len m n stm stn
        have hsz1 : (4 * max m.osds.length n.osds.length + (n.pools.length + m.buckets.length + 3 * n.buckets.length + 1)) * 120 ≤ 140737488351232 := Nat.le_trans (Nat.mul_le_mul_right 120 (Nat.le_trans hfl (Nat.add_le_add_left (Nat.mul_le_mul_left 5 hk) 33))) (by decide)
        have hsz2 : (4 * n.osds.length + (n.pools.length + m.buckets.length + 3 * n.buckets.length + 1)) * 120 ≤ 140737488351232 := Nat.le_trans (Nat.mul_le_mul_right 120 (Nat.add_le_add_right (Nat.mul_le_mul_left 4 (Nat.le_max_right _ _)) _)) hsz1
        have hall : ∀ w k, AllB (fun x => x.items.length ≤ 300) (osL w m n k ++ rsL m n) := fun w k => (osL_all (Nat.zero_le _) w m n k).append (rsL_all (Nat.zero_le _) (fun _ => Nat.zero_le _) fun x hx => (stn.ni x hx).1)
        have run1 := finds_run stm stn hk (Nat.le_trans (dfL_len' m n) hfl) (hall _ _)
        have run2 := finds_run stm stn hk (Nat.le_trans (dfL10_len' m n) hfl) (hall _ _)
        have hbk : m.buckets.length ≤ 65536 := by have := stm.nb; omega
        simp only [core, zrA, zrS, zrM, zrL, zrE, reduceCtorEq, zrD, ziE, ziL, ziN, hn, g0, g1, g23, g24, g25, hez2, LA1, LB0, lA1, lB0, x1, x2, x3, q1, q2, q3]
        refine (diff10_x mA2 mB2 (fun k hk => hk) okm okn iem ilm ien iln hsz2 run2).mono ?_
        rintro _ h7 ⟨e7, rv7, rfl, i7⟩
        have A7 := (e7.2 _ lA1).trans A1
        have B7 := (e7.2 _ lB0).trans B0
        have LA7 := ld_at (T := tabOf Try.prog NT0) A7
        have LB7 := ld_at (T := tabOf Try.prog NT0) B7
        have lA7 := at_lt A7
        have lB7 := at_lt B7
        have z1 := i7.one
        have z2 := i7.isSl
        have z3 := i7.lenD
        have g7 := e7.1
        simp only [core, zrA, zrS, zrM, zrL, zrE, reduceCtorEq, zrD, ziE, ziL, ziN, hn, g0, g1, g23, g24, g25, z1, LA7, LB7, lA7, lB7, x1, x2, x3, q1, q2, q3]
        refine (diff_x (mA2.ext e7 (Nat.le_refl _)) (mB2.ext e7 (Nat.le_refl _)) (fun k hk => Nat.lt_of_lt_of_le hk g7) okm okn iem ilm ien iln hbk hsz1 run1).mono ?_
        rintro _ h8 ⟨e8, rv8, rfl, i8⟩
        have y1 := i8.one
        have y2 := i8.isSl
        have y3 := i8.lenD
        rw [diff_eq] at y3
        rw [diff_eq]
        simp only [core, zrA, zrS, zrM, zrL, zrE, reduceCtorEq, zrD, ziE, ziL, ziN, hn, g0, g1, g23, g24, g25, y1]
        refine (num_x _).mono ?_
        rintro _ h9 ⟨rfl, rfl⟩
        have ee1 : ((dfR m n (dfL10 m n)).2 == (dfR m n (dfL10 m n)).2) = true := beq_self_eq_true _
        have ee2 : ((((dfR m n (dfL10 m n)).1.length : Nat) : Int) == (((dfR m n (dfL10 m n)).1.length : Nat) : Int)) = true := beq_self_eq_true _
        simp only [core, zrA, zrS, zrM, zrL, zrE, reduceCtorEq, zrD, ziE, ziL, ziN, hn, g0, g1, g23, g24, g25, ee1, ee2, y1, y2, y3, z1, z2, z3]
        refine awake10_c ?_
        simp only [core, zrA, zrS, zrM, zrL, zrE, reduceCtorEq, zrD, ziE, ziL, ziN, hn, g0, g1, g23, g24, g25]
        try simp
      · have hez2 : (er != 0) = true := bne_iff_ne.2 hez
        simp only [core, zrA, zrS, zrM, zrL, zrE, reduceCtorEq, zrD, ziE, ziL, ziN, hn, g0, g1, g23, g24, g25, hez2]
        refine awake10_c ?_
        simp only [core, zrA, zrS, zrM, zrL, zrE, reduceCtorEq, zrD, ziE, ziL, ziN, hn, g0, g1, g23, g24, g25]
        try simp
    · have hpe2 : ((playD l).2 != 0) = true := bne_iff_ne.2 hpe
      have hl0 : ((((playD l).1.length : Nat) : Int) == 0) = true := by rw [playD_no hpe]; rfl
      simp only [core, zrA, zrS, zrM, zrL, zrE, reduceCtorEq, zrD, ziE, ziL, ziN, hn, g0, g1, g23, g24, g25, hpe2, r1, r2, r3, hl0]
      refine awake10_c ?_
      simp only [core, zrA, zrS, zrM, zrL, zrE, reduceCtorEq, zrD, ziE, ziL, ziN, hn, g0, g1, g23, g24, g25]
      try simp
  · refine ⟨e0, fun x hx => by simp at hx, ?_⟩
    simp only [core, zrA, zrS, zrM, zrL, zrE, reduceCtorEq, zrD, ziE, ziL, ziN]
    (repeat' apply And.intro) <;> first | rfl | trivial
end Go.Proofs.Ytmfhagahkkhbeaa.Ex
namespace Go.Proofs.Ytmfhagahkkhbeaa
open Go.RowKit Go.ChangeShapes Go.WideShapes Go.ChangeAt
set_option maxRecDepth 100000 in
theorem osdmapFinds_walk {H : Type} {enc : TypeId × Value → H} {W : World} {base : Nat} {v0 : Value} {d0 : DataW H} {p0 : List MemPlace} {v1 : Value} {d1 : DataW H} {p1 : List MemPlace}
    (k0 : Value.okWide Try.prog W .any base 43 v0) (h0 : DataW.Trod enc Try.prog W 0 (fun _ => true) true 43 v0 d0 p0)
    (k1 : Value.okWide Try.prog W .any base 29 v1) (h1 : DataW.Trod enc Try.prog W 0 (fun _ => true) true 29 v1 d1 p1)
    {ts : List TypeId} {ds : List (DataW H)} (hsz : (DataW.weightsEach Try.prog ([43, 29] ++ ts) ([d0, d1] ++ ds)).all (· ≤ reachBytes) = true) :
    Calls Try.prog 4 #[v0, v1] W fun e w' => e = .returned (.bool true) ∧ Below W.heap.size W w' := by
  obtain ⟨v, l, r0, i0, ok0⟩ := Ex.open_sl Ex.opensA_Incs Try.underlying43 k0 h0 (weights_le hsz (j := 0) rfl rfl)
  obtain ⟨u, last, r1, i1, ok1⟩ := Ex.open_sl Ex.opensA_Chs Try.underlying29 k1 h1 (weights_le hsz (j := 1) rfl rfl)
  exact Ex.law_join (Ex.rels_cons r0 (Ex.rels_cons r1 Ex.rels_nil)) (Ex.finds_m i0 i1 ok0.1 ok0.2 ⟨by have h2 := ok1.1; unfold Ex.Sm at h2 ⊢; show last.length * 88 ≤ _; omega, ok1.2⟩)
end Go.Proofs.Ytmfhagahkkhbeaa
end
