/- Part 6 of the proof: Op13, Op14, Op15, Op16, Op17, Cl3, Opm, ClientMapsWalk. -/
import Derived.Test.YtfbpjobjdmmgiaaGreatM5
open Nat renaming reduceAdd → zrA, reduceSub → zrS, reduceMul → zrM, reduceLT → zrL, reduceEqDiff → zrE, reduceLeDiff → zrD, reduceShiftRight → zrR, reduceMod → zrO
open Int renaming reduceLE → ziE, reduceLT → ziL, reduceToNat → ziN
section

set_option linter.unusedSimpArgs false
set_option linter.unusedVariables false
set_option maxRecDepth 10000
set_option maxHeartbeats 4000000
namespace Go.Proofs.YtfbpjobjdmmgiaaGreat.Ex
open Go
theorem OwnL.extLt {α : Type} {R : Rep α} {G : Nat → Prop} {n0 : Nat} {h h1 : AH} {v v1 : AV} {e : TypeId} {xs : List α} (f : Fr h v h1 v1) (ho : OwnL R G n0 h v e xs) (hn0 : n0 ≤ h.n) : Ext n0 h h1 := ⟨f.1, fun b hb => (f.2 b (by omega) (ho.apartLt hb)).1⟩
/-- One more bucket behind an own row, of rows that lie below it. -/
theorem push_bk {n0 q : Nat} {G : Nat → Prop} {h : AH} {v ra rw1 : AV} {xs : List BktD} {x : BktD} {cap : Cap} {e' : TypeId} (ho : OwnL RBkt G n0 h v 109 xs) (hn0 : n0 ≤ h.n) (A : h.at q = some (.cells [.lit (.int .i64 x.id), .lit (.int .i64 x.kind), ra, rw1] e'))
    (r1 : IsSl RInt (fun k => G k ∧ k < n0) h ra x.items) (r2 : IsSl RInt (fun k => G k ∧ k < n0) h rw1 x.weights) (hi : I64 x.id ∧ I64 x.kind) (hl : (xs.length + 1) * 64 ≤ 140737488355328) :
    ∃ s' h', appendA (tabOf Tryz.prog NT0) h 67 67 v (.sl q 0 1 cap) = some (s', h') ∧ OwnL RBkt G n0 h' s' 109 (xs ++ [x]) ∧ Fr h v h' s' := by
  obtain ⟨s', h', a, b, c, d⟩ := ho.snoc (T := tabOf Tryz.prog NT0) (t := 67) (tx := 67) (y := x) (cap := cap) (by kernel_rfl) (by kernel_rfl) (by kernel_rfl) (zv := .agg [.lit (.int .i64 0), .lit (.int .i64 0), .lit (.slice none 0 0), .lit (.slice none 0 0)]) (by kernel_rfl) (by' := 64) (by kernel_rfl) rfl (by decide) (by decide) A
    (RBkt_is.2 ⟨ra, rw1, rfl, r1.lift fun k hk _ => ⟨rfl, hk.1, ho.apartLt hk.2⟩, r2.lift fun k hk _ => ⟨rfl, hk.1, ho.apartLt hk.2⟩, hi.1, hi.2⟩) (by omega) hl hn0
  exact ⟨s', h', a, b, c.1, d⟩
theorem bucketed10_x {F F2 : Nat → Prop} {H : AH} {m : MapD} {vo vp vb va vw : AV} (b : BktD) (hm : MpAt F H m vo vp vb) (hok : OkMp m) (sb : (m.buckets.length + 1) * 64 ≤ 140737488355328) (ha : IsSl RInt F2 H va b.items) (hw : IsSl RInt F2 H vw b.weights) (la : Sm 8 b.items) (lw : Sm 8 b.weights) (hi : I64 b.id ∧ I64 b.kind) :
    WC Tryz.prog (tabOf Tryz.prog NT0) S0 60 [mpV m vo vp vb, bktV b va vw] H fun r h' => Ext H.n H h' ∧ ∃ ro rp rb, r = mpV (withB m b) ro rp rb ∧ MpAt (fun b => H.n ≤ b) h' (withB m b) ro rp rb := by
  refine WC_fn Tryz.func60 rfl rfl ?_
  have o1 := hm.o.one
  have o2 := hm.p.one
  have o3 := hm.b.one
  have a1 := ha.one
  have w1 := hw.one
  have a2 := ha.isSl
  have w2 := hw.isSl
  unfold Sm at la lw
  simp only [core, zrA, zrS, zrM, zrL, zrE, reduceCtorEq, zrD, ziE, ziL, ziN, Tryz.ntmps60, mpV, bktV, o1, o2, o3, a1, w1]
  obtain ⟨hp, hhp, EP, P0, B0, Z0, nP⟩ := made_boxes (H := H) (mC m vo vp vb) (.cells [.lit (.int .i64 b.id), .lit (.int .i64 b.kind), va, vw] 109) mz
  unfold mC at P0 hhp
  unfold mz at Z0 hhp
  rw [← hhp]
  clear hhp
  have lP0 := at_lt P0
  have lB0 := at_lt B0
  have lZ0 := at_lt Z0
  refine (copy10_x (hm.ext EP (Nat.le_refl _)) hok).mono ?_
  rintro _ h3 ⟨e3, vo3, vp3, vb3, rfl, hown⟩
  have own3 := hown 0 (by omega)
  have m3 := own3.at (F := fun _ => True) (fun _ _ => trivial)
  have y1 := m3.o.one
  have y2 := m3.p.one
  have y3 := m3.b.one
  have s3 := m3.b.isSl
  have d3 := m3.b.lenD
  have P3 := (e3.2 _ lP0).trans P0
  have lP3 := at_lt P3
  have l3 := e3.1
  obtain ⟨h4, hh4⟩ : ∃ h4, h4 = h3.put H.n (.cells [.lit (.int .i64 m.epoch), vo3, vp3, vb3, .lit (.int .i64 m.leaf)] 69) := ⟨_, rfl⟩
  have P4 : h4.at H.n = some (.cells [.lit (.int .i64 m.epoch), vo3, vp3, vb3, .lit (.int .i64 m.leaf)] 69) := hh4 ▸ at_put_same _ lP3
  have k4 : ∀ b, b ≠ H.n → h4.at b = h3.at b := fun b hb => hh4 ▸ at_put_ne _ (Ne.symm hb)
  have n4 : h4.n = h3.n := by rw [hh4, n_put]
  have own4 : OwnMp hp.n 0 h4 m vo3 vp3 vb3 := hh4 ▸ own3.putLt (by omega)
  have B4 : h4.at (H.n + 1) = some (.cells [.lit (.int .i64 b.id), .lit (.int .i64 b.kind), va, vw] 109) := (k4 _ (by omega)).trans ((e3.2 _ lB0).trans B0)
  have Z4 : h4.at (H.n + 2) = some (.cells [.lit (.int .i64 0), .lit (.slice none 0 0), .lit (.slice none 0 0), .lit (.slice none 0 0), .lit (.int .i64 0)] 69) := (k4 (H.n + 2) (by omega)).trans ((e3.2 _ lZ0).trans Z0)
  have E4 : Ext H.n H h4 := hh4 ▸ (EP.step e3).put _ (Nat.le_refl _)
  have LB4 := ld_at (T := tabOf Tryz.prog NT0) B4
  have lB4 := at_lt B4
  simp only [core, zrA, zrS, zrM, zrL, zrE, reduceCtorEq, zrD, ziE, ziL, ziN, mpV, y1, y2, y3, P3, lP3, ← hh4, LB4, lB4, a1, w1, a2, w2]
  clear hh4 P3 lP3
  -- the bucket's rows in new memory
  have eB : Ext h4.n h4 (h4.push (.cells [] 3)) := (Ext.refl _ _).push _ (Nat.le_refl _)
  refine WOp_app (dn_flat (n0 := h4.n) flat_int (by kernel_rfl) (by kernel_rfl) (zv := .lit (.int .i64 0)) (by kernel_rfl) (by' := 8) (by kernel_rfl) rfl (by decide) (by decide) ((ha.ext E4 (Nat.le_refl _)).ext eB (Nat.le_refl _)) (by omega) (by omega) (at_push_n h4 _) (Nat.le_refl _) (by rw [n_push]; omega)) ?_
  rintro ra hB ⟨p1, eB'⟩
  have EB : Ext h4.n h4 hB := eB.trans (eB'.mono (by rw [n_push]; omega))
  have XB := (EB.2 _ lB4).trans B4
  have LXB := ld_at (T := tabOf Tryz.prog NT0) XB
  have lXB := at_lt XB
  have fB := EB.1
  have u1 := (p1.toSl (F := fun _ => True) (fun _ _ => trivial)).one
  have u2 := (p1.toSl (F := fun _ => True) (fun _ _ => trivial)).isSl
  have u5 := (p1.toSl (F := fun _ => True) (fun _ _ => trivial)).lenD
  obtain ⟨hC, hhC⟩ : ∃ hC, hC = hB.put (H.n + 1) (.cells [.lit (.int .i64 b.id), .lit (.int .i64 b.kind), ra, vw] 109) := ⟨_, rfl⟩
  have XC : hC.at (H.n + 1) = some (.cells [.lit (.int .i64 b.id), .lit (.int .i64 b.kind), ra, vw] 109) := hhC ▸ at_put_same _ lXB
  have nC : hC.n = hB.n := by rw [hhC, n_put]
  have kC : ∀ k, k ≠ H.n + 1 → hC.at k = hB.at k := fun k hk => hhC ▸ at_put_ne _ (Ne.symm hk)
  have LXC := ld_at (T := tabOf Tryz.prog NT0) XC
  have lXC := at_lt XC
  have p1C : OwnE RInt h4.n hC ra 3 b.items := hhC ▸ p1.put_ap (p1.apartLt (by omega))
  have ownC : OwnMp hp.n 0 hC m vo3 vp3 vb3 := hhC ▸ (own4.ext EB (Nat.le_refl _)).putLt (by omega)
  have eC : Ext H.n H hC := hhC ▸ ((E4.step EB).put _ (by omega))
  simp only [core, zrA, zrS, zrM, zrL, zrE, reduceCtorEq, zrD, ziE, ziL, ziN, a1, w1, a2, w2, u1, u2, XB, LXB, lXB, ← hhC, LXC, lXC]
  have eD : Ext hC.n hC (hC.push (.cells [] 3)) := (Ext.refl _ _).push _ (Nat.le_refl _)
  refine WOp_app (dn_flat (n0 := h4.n) flat_int (by kernel_rfl) (by kernel_rfl) (zv := .lit (.int .i64 0)) (by kernel_rfl) (by' := 8) (by kernel_rfl) rfl (by decide) (by decide) ((hw.ext eC (Nat.le_refl _)).ext eD (Nat.le_refl _)) (by omega) (by omega) (at_push_n hC _) (by omega) (by rw [n_push]; omega)) ?_
  rintro rw1 hD ⟨p2, eD'⟩
  have ED : Ext hC.n hC hD := eD.trans (eD'.mono (by rw [n_push]; omega))
  have XD := (ED.2 _ lXC).trans XC
  have LXD := ld_at (T := tabOf Tryz.prog NT0) XD
  have lXD := at_lt XD
  have fD := ED.1
  have u3 := (p2.toSl (F := fun _ => True) (fun _ _ => trivial)).one
  have u4 := (p2.toSl (F := fun _ => True) (fun _ _ => trivial)).isSl
  obtain ⟨h6, hh6⟩ : ∃ h6, h6 = hD.put (H.n + 1) (.cells [.lit (.int .i64 b.id), .lit (.int .i64 b.kind), ra, rw1] 109) := ⟨_, rfl⟩
  have B6 : h6.at (H.n + 1) = some (.cells [.lit (.int .i64 b.id), .lit (.int .i64 b.kind), ra, rw1] 109) := hh6 ▸ at_put_same _ lXD
  have n6 : h6.n = hD.n := by rw [hh6, n_put]
  have k6 : ∀ k, k ≠ H.n + 1 → h6.at k = hD.at k := fun k hk => hh6 ▸ at_put_ne _ (Ne.symm hk)
  have p16 : OwnE RInt h4.n h6 ra 3 b.items := hh6 ▸ (p1C.ext ED (Nat.le_refl _)).put_ap (p1.apartLt (by omega))
  have p26 : OwnE RInt h4.n h6 rw1 3 b.weights := hh6 ▸ p2.put_ap (p2.apartLt (by omega))
  have own6 : OwnMp hp.n 0 h6 m vo3 vp3 vb3 := hh6 ▸ (ownC.ext ED (Nat.le_refl _)).putLt (by omega)
  have E6 : Ext H.n H h6 := hh6 ▸ ((eC.step ED).put _ (by omega))
  have P6 : h6.at H.n = some (.cells [.lit (.int .i64 m.epoch), vo3, vp3, vb3, .lit (.int .i64 m.leaf)] 69) := (k6 _ (by omega)).trans ((ED.2 _ (by omega)).trans ((kC _ (by omega)).trans ((EB.2 _ (by omega)).trans P4)))
  have Z6 : h6.at (H.n + 2) = some (.cells [.lit (.int .i64 0), .lit (.slice none 0 0), .lit (.slice none 0 0), .lit (.slice none 0 0), .lit (.int .i64 0)] 69) := (k6 _ (by omega)).trans ((ED.2 _ (by omega)).trans ((kC _ (by omega)).trans ((EB.2 _ (by omega)).trans Z4)))
  have LB6 := ld_at (T := tabOf Tryz.prog NT0) B6
  have lB6 := at_lt B6
  have LP6 := ld_at (T := tabOf Tryz.prog NT0) P6
  have lP6 := at_lt P6
  have ib6 : IsSl RBkt (fun k => hp.n ≤ k ∧ k < h6.n) h6 vb3 m.buckets := own6.b.lift fun k hk hlt => ⟨rfl, hk.1, hlt⟩
  have bi6 : IsSl RInt (fun k => hp.n ≤ k ∧ k < h6.n) h6 ra b.items := (p16.toSl (F := fun k => h4.n ≤ k) fun k hk => hk).lift fun k hk hlt => ⟨rfl, by omega, hlt⟩
  have bw6 : IsSl RInt (fun k => hp.n ≤ k ∧ k < h6.n) h6 rw1 b.weights := (p26.toSl (F := fun k => h4.n ≤ k) fun k hk => hk).lift fun k hk hlt => ⟨rfl, by omega, hlt⟩
  simp only [core, zrA, zrS, zrM, zrL, zrE, reduceCtorEq, zrD, ziE, ziL, ziN, a1, w1, a2, w2, u1, u2, u3, u4, u5, XD, LXD, lXD, ← hh6, LB6, lB6, LP6, lP6, y1, y2, y3, s3, d3]
  clear hh6
  obtain ⟨n, hN⟩ : ∃ n, n = m.buckets.length := ⟨_, rfl⟩
  rw [← hN] at d3 ⊢
  refine WB_for n (fun i t h => (∃ s, OwnL RBkt (fun k => hp.n ≤ k) h6.n h s 109 ((m.buckets.take i).foldl (wbStep b) ([], decide (b.items.length = 0))).1 ∧ Ext h6.n h6 h ∧ t.get 5 = s) ∧ t.get 6 = .lit (.bool ((m.buckets.take i).foldl (wbStep b) ([], decide (b.items.length = 0))).2) ∧ t.n = 64 ∧ t.get 2 = .ptr H.n 0 ∧ t.get 3 = .ptr (H.n + 1) 0 ∧ t.get 4 = .ptr (H.n + 2) 0 ∧ t.get 26 = vb3 ∧ t.get 27 = .lit (.int .i64 n) ∧ t.get 28 = .lit (.int .i64 i)) ?_ ?_ _ _ ?_
  · rintro i t h hlt hc ⟨⟨s, ho, he, g5⟩, g6, hn, g2, g3, g4, g26, g27, g28⟩ ih
    obtain ⟨x, hx⟩ : ∃ x, m.buckets[i]? = some x := ⟨_, List.getElem?_eq_getElem (by omega)⟩
    have hl1 := wbFold_len (b := b) (m.buckets.take i) ([], decide (b.items.length = 0))
    have hl2 := nB_le (decide (b.items.length = 0))
    have hlt3 : (m.buckets.take i).length ≤ i := by rw [List.length_take]; omega
    have hlen : ((m.buckets.take i).foldl (wbStep b) ([], decide (b.items.length = 0))).1.length ≤ i + 1 := by
      simp only [List.length_nil] at hl1
      omega
    have hnB : ((m.buckets.take i).foldl (wbStep b) ([], decide (b.items.length = 0))).2 = false → ((m.buckets.take i).foldl (wbStep b) ([], decide (b.items.length = 0))).1.length ≤ i := fun hf => by
      rw [hf] at hl1
      have h4 : nB false = 1 := rfl
      simp only [List.length_nil] at hl1
      omega
    clear hl1 hl2
    have hsucc := fold_succ (wbStep b) ([], decide (b.items.length = 0)) hx
    obtain ⟨S, hS⟩ : ∃ S, S = (m.buckets.take i).foldl (wbStep b) ([], decide (b.items.length = 0)) := ⟨_, rfl⟩
    rw [← hS] at ho g6 hlen hnB hsucc
    rw [hsucc] at ih
    clear hS hsucc
    obtain ⟨L, put⟩ := S
    simp only at ho g6 hlen hnB
    obtain ⟨c, hc1, hld, hld0⟩ := ib6.atE (T := tabOf Tryz.prog NT0) he RBkt_z hx
    obtain ⟨va2, vw2, rfl, ha2, hw2, hi2⟩ := RBkt_is.1 hc1
    have x1 := ha2.one
    have x2 := hw2.one
    have hwi := wrap_succ (n := n) hlt (by omega)
    have BH := (he.2 _ (by omega)).trans B6
    have lBH := at_lt BH
    have lhn := he.1
    obtain ⟨hA, hhA⟩ : ∃ hA, hA = h.push (.cells [.lit (.int .i64 x.id), .lit (.int .i64 x.kind), va2, vw2] 109) := ⟨_, rfl⟩
    have eA : Ext h.n h hA := hhA ▸ (Ext.refl _ _).push _ (Nat.le_refl _)
    have XA : hA.at h.n = some (.cells [.lit (.int .i64 x.id), .lit (.int .i64 x.kind), va2, vw2] 109) := hhA ▸ at_push_n _ _
    have LXA := ld_at (T := tabOf Tryz.prog NT0) XA
    have lXA := at_lt XA
    have nA : hA.n = h.n + 1 := by rw [hhA, n_push]
    have BA := (eA.2 _ lBH).trans BH
    have LBA := ld_at (T := tabOf Tryz.prog NT0) BA
    have lBA := at_lt BA
    have oA := ho.ext eA (Nat.le_refl _)
    have t1 := (ho.toSl (F := fun _ => True) (fun _ _ => trivial) (fun _ _ => trivial)).isSl
    have heA : Ext h6.n h6 hA := he.trans (eA.mono (by omega))
    cases put with
    | true =>
      by_cases ceq : x.id = b.id
      · have hst : wbStep b (L, true) x = (L, true) := by
          unfold wbStep
          simp [ceq]
        rw [hst] at ih
        have cqn : (x.id != b.id) = false := by simp [ceq]
        simp only [core, zrA, zrS, zrM, zrL, zrE, reduceCtorEq, zrD, ziE, ziL, ziN, ← hhA, cqn, hn, g2, g3, g4, g26, g27, g28, g5, g6, hlt, hc, hld, hld0, hwi, s3, d3, t1, x1, x2, u1, u2, u3, u4, LXA, lXA, LBA, lBA]
        refine ih _ _ ⟨⟨_, oA, heA, by simp only [core, zrA, zrS, zrM, zrL, zrE, reduceCtorEq, zrD, ziE, ziL, ziN, hn, g2, g3, g4, g26, g27, g28, g5, g6]⟩, by simp only [core, zrA, zrS, zrM, zrL, zrE, reduceCtorEq, zrD, ziE, ziL, ziN, hn, g2, g3, g4, g26, g27, g28, g5, g6], ?_⟩
        simp only [core, zrA, zrS, zrM, zrL, zrE, reduceCtorEq, zrD, ziE, ziL, ziN, hn, g2, g3, g4, g26, g27, g28, g5, g6]
      · have hst : wbStep b (L, true) x = (L ++ [x], true) := by
          unfold wbStep
          simp [ceq]
        rw [hst] at ih
        have cqn : (x.id != b.id) = true := by simp [ceq]
        simp only [core, zrA, zrS, zrM, zrL, zrE, reduceCtorEq, zrD, ziE, ziL, ziN, ← hhA, cqn, hn, g2, g3, g4, g26, g27, g28, g5, g6, hlt, hc, hld, hld0, hwi, s3, d3, t1, x1, x2, u1, u2, u3, u4, LXA, lXA, LBA, lBA]
        have eB2 : Ext hA.n hA (hA.push (.cells [.lit (.int .i64 x.id), .lit (.int .i64 x.kind), va2, vw2] 109)) := (Ext.refl _ _).push _ (Nat.le_refl _)
        have heB2 := heA.trans (eB2.mono (by omega))
        refine WOp_app (push_bk (oA.ext eB2 (Nat.le_refl _)) (by rw [n_push]; omega) (at_push_n _ _) (ha2.ext heB2 (Nat.le_refl _)) (hw2.ext heB2 (Nat.le_refl _)) hi2 (lenA2 hlen hlt hN sb)) ?_
        rintro s2 hC2 ⟨oC2, fC2⟩
        have fr2 : Fr hA s hC2 s2 := (Fr.ext eB2).trans fC2
        have q2 := (oC2.toSl (F := fun _ => True) (fun _ _ => trivial) (fun _ _ => trivial)).isSl
        have z2 := (oC2.toSl (F := fun _ => True) (fun _ _ => trivial) (fun _ _ => trivial)).one
        have he2 : Ext h6.n h6 hC2 := heA.trans (OwnL.extLt fr2 oA (by omega))
        simp only [core, zrA, zrS, zrM, zrL, zrE, reduceCtorEq, zrD, ziE, ziL, ziN, q2, z2, hn, g2, g3, g4, g26, g27, g28, g5, g6, hlt, hc, hld, hld0, hwi, s3, d3, t1, x1, x2, u1, u2, u3, u4, LXA, lXA, LBA, lBA]
        refine ih _ _ ⟨⟨_, oC2, he2, by simp only [core, zrA, zrS, zrM, zrL, zrE, reduceCtorEq, zrD, ziE, ziL, ziN, hn, g2, g3, g4, g26, g27, g28, g5, g6]⟩, by simp only [core, zrA, zrS, zrM, zrL, zrE, reduceCtorEq, zrD, ziE, ziL, ziN, hn, g2, g3, g4, g26, g27, g28, g5, g6], ?_⟩
        simp only [core, zrA, zrS, zrM, zrL, zrE, reduceCtorEq, zrD, ziE, ziL, ziN, hn, g2, g3, g4, g26, g27, g28, g5, g6]
    | false =>
      by_cases cle : x.id ≤ b.id
      · simp only [core, zrA, zrS, zrM, zrL, zrE, reduceCtorEq, zrD, ziE, ziL, ziN, ← hhA, cle, hn, g2, g3, g4, g26, g27, g28, g5, g6, hlt, hc, hld, hld0, hwi, s3, d3, t1, x1, x2, u1, u2, u3, u4, LXA, lXA, LBA, lBA]
        have eB1 : Ext hA.n hA (hA.push (.cells [.lit (.int .i64 b.id), .lit (.int .i64 b.kind), ra, rw1] 109)) := (Ext.refl _ _).push _ (Nat.le_refl _)
        have heB1 := heA.trans (eB1.mono (by omega))
        refine WOp_app (push_bk (oA.ext eB1 (Nat.le_refl _)) (by rw [n_push]; omega) (at_push_n _ _) (bi6.ext heB1 (Nat.le_refl _)) (bw6.ext heB1 (Nat.le_refl _)) hi (lenA2 hlen hlt hN sb)) ?_
        rintro s1 hC1 ⟨oC1, fC1⟩
        have fr1 : Fr hA s hC1 s1 := (Fr.ext eB1).trans fC1
        have q1 := (oC1.toSl (F := fun _ => True) (fun _ _ => trivial) (fun _ _ => trivial)).isSl
        have z1 := (oC1.toSl (F := fun _ => True) (fun _ _ => trivial) (fun _ _ => trivial)).one
        have he1 : Ext h6.n h6 hC1 := heA.trans (OwnL.extLt fr1 oA (by omega))
        obtain ⟨X1, -⟩ := fr1.box XA (ho.apart (Nat.le_refl _))
        have LX1 := ld_at (T := tabOf Tryz.prog NT0) X1
        have lX1 := at_lt X1
        have B1' := (he1.2 _ lB6).trans B6
        have LB1' := ld_at (T := tabOf Tryz.prog NT0) B1'
        have lB1' := at_lt B1'
        have ln1 := he1.1
        simp only [core, zrA, zrS, zrM, zrL, zrE, reduceCtorEq, zrD, ziE, ziL, ziN, q1, z1, hn, g2, g3, g4, g26, g27, g28, g5, g6, hlt, hc, hld, hld0, hwi, s3, d3, t1, x1, x2, u1, u2, u3, u4, LXA, lXA, LBA, lBA]
        by_cases ceq : x.id = b.id
        · have hst : wbStep b (L, false) x = (L ++ [b], true) := by
            unfold wbStep
            simp [ceq]
          rw [hst] at ih
          have cqn : (x.id != b.id) = false := by simp [ceq]
          simp only [core, zrA, zrS, zrM, zrL, zrE, reduceCtorEq, zrD, ziE, ziL, ziN, cqn, LX1, LB1', lX1, lB1', q1, z1, hn, g2, g3, g4, g26, g27, g28, g5, g6, hlt, hc, hld, hld0, hwi, s3, d3, t1, x1, x2, u1, u2, u3, u4, LXA, lXA, LBA, lBA]
          refine ih _ _ ⟨⟨_, oC1, he1, by simp only [core, zrA, zrS, zrM, zrL, zrE, reduceCtorEq, zrD, ziE, ziL, ziN, hn, g2, g3, g4, g26, g27, g28, g5, g6]⟩, by simp only [core, zrA, zrS, zrM, zrL, zrE, reduceCtorEq, zrD, ziE, ziL, ziN, hn, g2, g3, g4, g26, g27, g28, g5, g6], ?_⟩
          simp only [core, zrA, zrS, zrM, zrL, zrE, reduceCtorEq, zrD, ziE, ziL, ziN, hn, g2, g3, g4, g26, g27, g28, g5, g6]
        · have hst : wbStep b (L, false) x = (L ++ [b] ++ [x], true) := by
            unfold wbStep
            simp [ceq, cle]
          rw [hst] at ih
          have cqn : (x.id != b.id) = true := by simp [ceq]
          simp only [core, zrA, zrS, zrM, zrL, zrE, reduceCtorEq, zrD, ziE, ziL, ziN, cqn, LX1, LB1', lX1, lB1', q1, z1, hn, g2, g3, g4, g26, g27, g28, g5, g6, hlt, hc, hld, hld0, hwi, s3, d3, t1, x1, x2, u1, u2, u3, u4, LXA, lXA, LBA, lBA]
          have eB2 : Ext hC1.n hC1 (hC1.push (.cells [.lit (.int .i64 x.id), .lit (.int .i64 x.kind), va2, vw2] 109)) := (Ext.refl _ _).push _ (Nat.le_refl _)
          have heB2 := he1.trans (eB2.mono (by omega))
          refine WOp_app (push_bk (oC1.ext eB2 (Nat.le_refl _)) (by rw [n_push]; omega) (at_push_n _ _) (ha2.ext heB2 (Nat.le_refl _)) (hw2.ext heB2 (Nat.le_refl _)) hi2 (lenA1 (hnB rfl) hlt hN sb)) ?_
          rintro s2 hC2 ⟨oC2, fC2⟩
          have fr2 : Fr hC1 s1 hC2 s2 := (Fr.ext eB2).trans fC2
          have q2 := (oC2.toSl (F := fun _ => True) (fun _ _ => trivial) (fun _ _ => trivial)).isSl
          have z2 := (oC2.toSl (F := fun _ => True) (fun _ _ => trivial) (fun _ _ => trivial)).one
          have he2 : Ext h6.n h6 hC2 := he1.trans (OwnL.extLt fr2 oC1 (by omega))
          simp only [core, zrA, zrS, zrM, zrL, zrE, reduceCtorEq, zrD, ziE, ziL, ziN, q2, z2, hn, g2, g3, g4, g26, g27, g28, g5, g6, hlt, hc, hld, hld0, hwi, s3, d3, t1, x1, x2, u1, u2, u3, u4, LXA, lXA, LBA, lBA]
          refine ih _ _ ⟨⟨_, oC2, he2, by simp only [core, zrA, zrS, zrM, zrL, zrE, reduceCtorEq, zrD, ziE, ziL, ziN, hn, g2, g3, g4, g26, g27, g28, g5, g6]⟩, by simp only [core, zrA, zrS, zrM, zrL, zrE, reduceCtorEq, zrD, ziE, ziL, ziN, hn, g2, g3, g4, g26, g27, g28, g5, g6], ?_⟩
          simp only [core, zrA, zrS, zrM, zrL, zrE, reduceCtorEq, zrD, ziE, ziL, ziN, hn, g2, g3, g4, g26, g27, g28, g5, g6]
      · skip
        by_cases ceq : x.id = b.id
        · exact absurd (by omega) cle
        · have hst : wbStep b (L, false) x = (L ++ [x], false) := by
            unfold wbStep
            simp [ceq, cle]
          rw [hst] at ih
          have cqn : (x.id != b.id) = true := by simp [ceq]
          simp only [core, zrA, zrS, zrM, zrL, zrE, reduceCtorEq, zrD, ziE, ziL, ziN, ← hhA, cqn, cle, hn, g2, g3, g4, g26, g27, g28, g5, g6, hlt, hc, hld, hld0, hwi, s3, d3, t1, x1, x2, u1, u2, u3, u4, LXA, lXA, LBA, lBA]
          have eB2 : Ext hA.n hA (hA.push (.cells [.lit (.int .i64 x.id), .lit (.int .i64 x.kind), va2, vw2] 109)) := (Ext.refl _ _).push _ (Nat.le_refl _)
          have heB2 := heA.trans (eB2.mono (by omega))
          refine WOp_app (push_bk (oA.ext eB2 (Nat.le_refl _)) (by rw [n_push]; omega) (at_push_n _ _) (ha2.ext heB2 (Nat.le_refl _)) (hw2.ext heB2 (Nat.le_refl _)) hi2 (lenA2 hlen hlt hN sb)) ?_
          rintro s2 hC2 ⟨oC2, fC2⟩
          have fr2 : Fr hA s hC2 s2 := (Fr.ext eB2).trans fC2
          have q2 := (oC2.toSl (F := fun _ => True) (fun _ _ => trivial) (fun _ _ => trivial)).isSl
          have z2 := (oC2.toSl (F := fun _ => True) (fun _ _ => trivial) (fun _ _ => trivial)).one
          have he2 : Ext h6.n h6 hC2 := heA.trans (OwnL.extLt fr2 oA (by omega))
          simp only [core, zrA, zrS, zrM, zrL, zrE, reduceCtorEq, zrD, ziE, ziL, ziN, q2, z2, hn, g2, g3, g4, g26, g27, g28, g5, g6, hlt, hc, hld, hld0, hwi, s3, d3, t1, x1, x2, u1, u2, u3, u4, LXA, lXA, LBA, lBA]
          refine ih _ _ ⟨⟨_, oC2, he2, by simp only [core, zrA, zrS, zrM, zrL, zrE, reduceCtorEq, zrD, ziE, ziL, ziN, hn, g2, g3, g4, g26, g27, g28, g5, g6]⟩, by simp only [core, zrA, zrS, zrM, zrL, zrE, reduceCtorEq, zrD, ziE, ziL, ziN, hn, g2, g3, g4, g26, g27, g28, g5, g6], ?_⟩
          simp only [core, zrA, zrS, zrM, zrL, zrE, reduceCtorEq, zrD, ziE, ziL, ziN, hn, g2, g3, g4, g26, g27, g28, g5, g6]
  · rintro t h hc ⟨⟨s, ho, he, g5⟩, g6, hn, g2, g3, g4, g26, g27, g28⟩
    rw [hN, List.take_length] at ho g6
    have hlen : (m.buckets.foldl (wbStep b) ([], decide (b.items.length = 0))).2 = false → (m.buckets.foldl (wbStep b) ([], decide (b.items.length = 0))).1.length ≤ m.buckets.length := fun hf => by
      have h1 := wbFold_len (b := b) m.buckets ([], decide (b.items.length = 0))
      have h2 := nB_le (decide (b.items.length = 0))
      rw [hf] at h1
      have h4 : nB false = 1 := rfl
      simp only [List.length_nil] at h1
      omega
    have hwb : (withB m b).buckets = if (m.buckets.foldl (wbStep b) ([], decide (b.items.length = 0))).2 then (m.buckets.foldl (wbStep b) ([], decide (b.items.length = 0))).1 else (m.buckets.foldl (wbStep b) ([], decide (b.items.length = 0))).1 ++ [b] := rfl
    obtain ⟨S, hS⟩ : ∃ S, S = m.buckets.foldl (wbStep b) ([], decide (b.items.length = 0)) := ⟨_, rfl⟩
    rw [← hS] at ho g6 hlen hwb
    clear hS
    obtain ⟨L, put⟩ := S
    simp only at ho g6 hlen hwb
    have t1 := (ho.toSl (F := fun _ => True) (fun _ _ => trivial) (fun _ _ => trivial)).isSl
    have t2 := (ho.toSl (F := fun _ => True) (fun _ _ => trivial) (fun _ _ => trivial)).one
    have PH := (he.2 _ lP6).trans P6
    have BH := (he.2 _ lB6).trans B6
    have ZH := (he.2 _ (by omega)).trans Z6
    have LP := ld_at (T := tabOf Tryz.prog NT0) PH
    have LB := ld_at (T := tabOf Tryz.prog NT0) BH
    have lPH := at_lt PH
    have lBH := at_lt BH
    have lZH := at_lt ZH
    have lhn := he.1
    have hne : ¬ H.n = H.n + 2 := by omega
    have fin : ∀ (h' : AH) (s' : AV) (X Y : AB), Ext h6.n h6 h' → OwnL RBkt (fun k => hp.n ≤ k) h6.n h' s' 109 (withB m b).buckets →
        Ext H.n H ((h'.put H.n X).put (H.n + 2) Y) ∧ MpAt (fun b => H.n ≤ b) ((h'.put H.n X).put (H.n + 2) Y) (withB m b) vo3 vp3 s' := by
      intro h' s' X Y he' hs'
      refine ⟨((E6.trans (he'.mono E6.1)).put _ (Nat.le_refl _)).put _ (by omega), ?_, ?_, ?_⟩
      · exact (((own6.o.ext he' (Nat.le_refl _)).put_ap (own6.o.apartLt (by omega))).put_ap (own6.o.apartLt (by omega))).toSl fun b hb => by omega
      · exact (((own6.p.ext he' (Nat.le_refl _)).put_ap (own6.p.apartLt (by omega))).put_ap (own6.p.apartLt (by omega))).toSl fun b hb => by omega
      · exact (hs'.toSl (F := fun k => hp.n ≤ k) (fun k hk => hk) (fun k hk => by omega)).lift fun k hk _ => ⟨by rw [at_put_ne _ (by omega), at_put_ne _ (by omega)], by omega⟩
    cases put with
    | true =>
      simp only [core, zrA, zrS, zrM, zrL, zrE, reduceCtorEq, zrD, ziE, ziL, ziN, hn, g2, g3, g4, g26, g27, g28, g5, g6, hc, s3, d3, t1, t2, LP, LB, lPH, lBH, PH, ZH, lZH, y1, y2, y3, hne]
      obtain ⟨f1, f2⟩ := fin h s _ _ he (by rw [hwb, if_pos rfl]; exact ho)
      exact ⟨f1, vo3, vp3, s, rfl, f2⟩
    | false =>
      simp only [core, zrA, zrS, zrM, zrL, zrE, reduceCtorEq, zrD, ziE, ziL, ziN, hn, g2, g3, g4, g26, g27, g28, g5, g6, hc, s3, d3, t1, t2, LP, LB, lPH, lBH, PH, ZH, lZH, y1, y2, y3, u1, u2, u3, u4, hne]
      have eB2 : Ext h.n h (h.push (.cells [.lit (.int .i64 b.id), .lit (.int .i64 b.kind), ra, rw1] 109)) := (Ext.refl _ _).push _ (Nat.le_refl _)
      have heB := he.trans (eB2.mono lhn)
      refine WOp_app (push_bk (ho.ext eB2 (Nat.le_refl _)) (by rw [n_push]; omega) (at_push_n _ _) (bi6.ext heB (Nat.le_refl _)) (bw6.ext heB (Nat.le_refl _)) hi (lenA3 (hlen rfl) sb)) ?_
      rintro s2 hC2 ⟨oC, fC⟩
      have fr : Fr h s hC2 s2 := (Fr.ext eB2).trans fC
      have heC : Ext h6.n h6 hC2 := he.trans (OwnL.extLt fr ho lhn)
      have t3 := (oC.toSl (F := fun _ => True) (fun _ _ => trivial) (fun _ _ => trivial)).isSl
      have t4 := (oC.toSl (F := fun _ => True) (fun _ _ => trivial) (fun _ _ => trivial)).one
      have PC := (heC.2 _ lP6).trans P6
      have ZC := (heC.2 _ (by omega)).trans Z6
      have LPC := ld_at (T := tabOf Tryz.prog NT0) PC
      have lPC := at_lt PC
      have lZC := at_lt ZC
      simp only [core, zrA, zrS, zrM, zrL, zrE, reduceCtorEq, zrD, ziE, ziL, ziN, hn, g2, g3, g4, g26, g27, g28, g5, g6, t3, t4, PC, LPC, lPC, ZC, lZC, y1, y2, y3, hne]
      obtain ⟨f1, f2⟩ := fin hC2 s2 _ _ heC (by rw [hwb, if_neg (by simp)]; exact oC)
      exact ⟨f1, vo3, vp3, s2, rfl, f2⟩
  · have hd : ((b.items.length : Int) == 0) = decide (b.items.length = 0) := by
      by_cases h : b.items.length = 0
      · rw [h]; rfl
      · rw [decide_eq_false h]; simp; exact fun hh => h (by rw [hh]; rfl)
    refine ⟨⟨_, OwnL.nil, Ext.refl _ _, by simp only [core, zrA, zrS, zrM, zrL, zrE, reduceCtorEq, zrD, ziE, ziL, ziN]⟩, ?_, ?_⟩
    · simp only [core, zrA, zrS, zrM, zrL, zrE, reduceCtorEq, zrD, ziE, ziL, ziN, hd, List.take_zero, List.foldl_nil]
    · simp only [core, zrA, zrS, zrM, zrL, zrE, reduceCtorEq, zrD, ziE, ziL, ziN]
      rfl
end Go.Proofs.YtfbpjobjdmmgiaaGreat.Ex
end

section

set_option linter.unusedSimpArgs false
set_option linter.unusedVariables false
set_option maxRecDepth 10000
set_option maxHeartbeats 4000000
namespace Go.Proofs.YtfbpjobjdmmgiaaGreat.Ex
open Go
/-- What a change answers: a map and an error. -/
def R10 (F : Nat → Prop) (H : AH) (m : MapD) (c : ChD) (r : AV) (h' : AH) : Prop :=
  Ext H.n H h' ∧ ∃ n ro rp rb, r = .tup [mpV n ro rp rb, .lit (.int .i64 (chMay m c))] ∧ MpAt (fun k => F k ∨ H.n ≤ k) h' n ro rp rb ∧ (chMay m c = 0 → n = chMade m c)
theorem R10.no {F : Nat → Prop} {H h' : AH} {m : MapD} {c : ChD} {vo vp vb : AV} {e : Int} (hm : MpAt F H m vo vp vb) (he : Ext H.n H h') (hc : chMay m c = e) (h0 : e ≠ 0) : R10 F H m c (.tup [mpV m vo vp vb, .lit (.int .i64 e)]) h' := by
  have h1 := hm.ext he (Nat.le_refl _)
  exact ⟨he, m, vo, vp, vb, by rw [hc], ⟨h1.o.lift fun _ h _ => ⟨rfl, .inl h⟩, h1.p.lift fun _ h _ => ⟨rfl, .inl h⟩, h1.b.lift fun _ h _ => ⟨rfl, .inl h⟩⟩, fun hh => absurd (hc.symm.trans hh) h0⟩
theorem R10.yes {F : Nat → Prop} {H h' : AH} {m : MapD} {c : ChD} {vo vp vb : AV} (hm : MpAt (fun k => H.n ≤ k) h' (chMade m c) vo vp vb) (he : Ext H.n H h') (hc : chMay m c = 0) : R10 F H m c (.tup [mpV (chMade m c) vo vp vb, .lit (.int .i64 0)]) h' :=
  ⟨he, _, vo, vp, vb, by rw [hc], ⟨hm.o.lift fun _ h _ => ⟨rfl, .inr h⟩, hm.p.lift fun _ h _ => ⟨rfl, .inr h⟩, hm.b.lift fun _ h _ => ⟨rfl, .inr h⟩⟩, fun _ => rfl⟩
theorem MpAt.putLt {n0 p : Nat} {h : AH} {m : MapD} {vo vp vb : AV} {x : AB} (hm : MpAt (fun k => n0 ≤ k) h m vo vp vb) (hp : p < n0) : MpAt (fun k => n0 ≤ k) (h.put p x) m vo vp vb :=
  ⟨hm.o.lift fun b hb _ => ⟨at_put_ne _ (by omega), hb⟩, hm.p.lift fun b hb _ => ⟨at_put_ne _ (by omega), hb⟩, hm.b.lift fun b hb _ => ⟨at_put_ne _ (by omega), hb⟩⟩
theorem MpAt.monoN {n0 n1 : Nat} {h : AH} {m : MapD} {vo vp vb : AV} (hm : MpAt (fun k => n0 ≤ k) h m vo vp vb) (hn : n1 ≤ n0) : MpAt (fun k => n1 ≤ k) h m vo vp vb :=
  ⟨hm.o.lift fun b hb _ => ⟨rfl, by omega⟩, hm.p.lift fun b hb _ => ⟨rfl, by omega⟩, hm.b.lift fun b hb _ => ⟨rfl, by omega⟩⟩
theorem others5_x {F F2 : Nat → Prop} {H : AH} {m : MapD} {vo vp vb va vw : AV} (c : ChD) (hm : MpAt F H m vo vp vb) (hok : OkMp m) (hz : MpSz m) (hc : ChIn F2 H c va vw) (hk : c.kind = 5) :
    WC Tryz.prog (tabOf Tryz.prog NT0) S0 44 [mpV m vo vp vb, chV c va vw] H (R10 F H m c) := by
  refine WC_fn Tryz.func44 rfl rfl ?_
  have o1 := hm.o.one
  have o2 := hm.p.one
  have o3 := hm.b.one
  have a1 := hc.a.one
  have w1 := hc.w.one
  have a2 := hc.a.isSl
  have a3 := hc.a.lenD
  obtain ⟨hp, hhp, EP, P0, C0, Z0, nP⟩ := made_boxes (H := H) (mC m vo vp vb) (cC c va vw) mz
  unfold mC at P0 hhp
  unfold cC at C0 hhp
  unfold mz at Z0 hhp
  have LP := ld_at (T := tabOf Tryz.prog NT0) P0
  have LC := ld_at (T := tabOf Tryz.prog NT0) C0
  have lP := at_lt P0
  have lC := at_lt C0
  have lZ := at_lt Z0
  have hne : ¬ H.n = H.n + 2 := by omega
  simp only [core, zrA, zrS, zrM, zrL, zrE, reduceCtorEq, zrD, ziE, ziL, ziN, Tryz.ntmps44, mpV, chV, o1, o2, o3, a1, w1]
  rw [← hhp]
  clear hhp
  have k5e : (c.kind == 5) = true := by rw [hk]; rfl
  obtain ⟨hq, hhq⟩ : ∃ hq, hq = hp.push (.cells (pC' c.pool) 102) := ⟨_, rfl⟩
  have eQ : Ext hp.n hp hq := hhq ▸ (Ext.refl _ _).push _ (Nat.le_refl _)
  have A0 : hq.at hp.n = some (.cells (pC' c.pool) 102) := hhq ▸ at_push_n _ _
  have nQ : hq.n = hp.n + 1 := by rw [hhq, n_push]
  unfold pC' at A0 hhq
  rw [show hp.n = H.n + 1 + 1 + 1 by omega] at A0
  have LA := ld_at (T := tabOf Tryz.prog NT0) A0
  have lA := at_lt A0
  have P1 := (eQ.2 _ lP).trans P0
  have C1 := (eQ.2 _ lC).trans C0
  have Z1 := (eQ.2 _ lZ).trans Z0
  have LP1 := ld_at (T := tabOf Tryz.prog NT0) P1
  have LC1 := ld_at (T := tabOf Tryz.prog NT0) C1
  have lP1 := at_lt P1
  have lC1 := at_lt C1
  have lZ1 := at_lt Z1
  have EQ := EP.step eQ
  have hM : chMay m c = mayPoolF m c.pool := by unfold chMay; rw [if_neg (by unfold isOs; omega), if_pos hk]
  have hE : chMade m c = { m with pools := insP m.pools c.pool } := by unfold chMade; rw [if_pos hk]
  by_cases c1 : c.pool.id < 1
  · have hB : chMay m c = 22 := by rw [hM]; unfold mayPoolF; rw [if_pos (by unfold poolBad; omega)]
    simp only [core, zrA, zrS, zrM, zrL, zrE, reduceCtorEq, zrD, ziE, ziL, ziN, o1, o2, o3, a1, w1, LP, LC, lP, lC, ← hhq, LA, lA, LP1, LC1, lP1, lC1, Z1, lZ1, k5e, c1]
    exact R10.no hm (EQ.put _ (by omega)) hB (by decide)
  by_cases c2 : 4 < c.pool.id
  · have hB : chMay m c = 22 := by rw [hM]; unfold mayPoolF; rw [if_pos (by unfold poolBad; omega)]
    simp only [core, zrA, zrS, zrM, zrL, zrE, reduceCtorEq, zrD, ziE, ziL, ziN, o1, o2, o3, a1, w1, LP, LC, lP, lC, ← hhq, LA, lA, LP1, LC1, lP1, lC1, Z1, lZ1, k5e, c1, c2]
    exact R10.no hm (EQ.put _ (by omega)) hB (by decide)
  by_cases c3 : c.pool.size < 1
  · have hB : chMay m c = 22 := by rw [hM]; unfold mayPoolF; rw [if_pos (by unfold poolBad; omega)]
    simp only [core, zrA, zrS, zrM, zrL, zrE, reduceCtorEq, zrD, ziE, ziL, ziN, o1, o2, o3, a1, w1, LP, LC, lP, lC, ← hhq, LA, lA, LP1, LC1, lP1, lC1, Z1, lZ1, k5e, c1, c2, c3]
    exact R10.no hm (EQ.put _ (by omega)) hB (by decide)
  by_cases c4 : 8 < c.pool.size
  · have hB : chMay m c = 22 := by rw [hM]; unfold mayPoolF; rw [if_pos (by unfold poolBad; omega)]
    simp only [core, zrA, zrS, zrM, zrL, zrE, reduceCtorEq, zrD, ziE, ziL, ziN, o1, o2, o3, a1, w1, LP, LC, lP, lC, ← hhq, LA, lA, LP1, LC1, lP1, lC1, Z1, lZ1, k5e, c1, c2, c3, c4]
    exact R10.no hm (EQ.put _ (by omega)) hB (by decide)
  by_cases c5 : c.pool.min < 1
  · have hB : chMay m c = 22 := by rw [hM]; unfold mayPoolF; rw [if_pos (by unfold poolBad; omega)]
    simp only [core, zrA, zrS, zrM, zrL, zrE, reduceCtorEq, zrD, ziE, ziL, ziN, o1, o2, o3, a1, w1, LP, LC, lP, lC, ← hhq, LA, lA, LP1, LC1, lP1, lC1, Z1, lZ1, k5e, c1, c2, c3, c4, c5]
    exact R10.no hm (EQ.put _ (by omega)) hB (by decide)
  by_cases c6 : c.pool.size < c.pool.min
  · have hB : chMay m c = 22 := by rw [hM]; unfold mayPoolF; rw [if_pos (by unfold poolBad; omega)]
    simp only [core, zrA, zrS, zrM, zrL, zrE, reduceCtorEq, zrD, ziE, ziL, ziN, o1, o2, o3, a1, w1, LP, LC, lP, lC, ← hhq, LA, lA, LP1, LC1, lP1, lC1, Z1, lZ1, k5e, c1, c2, c3, c4, c5, c6]
    exact R10.no hm (EQ.put _ (by omega)) hB (by decide)
  by_cases c7 : c.pool.pgs < 1
  · have hB : chMay m c = 22 := by rw [hM]; unfold mayPoolF; rw [if_pos (by unfold poolBad; omega)]
    simp only [core, zrA, zrS, zrM, zrL, zrE, reduceCtorEq, zrD, ziE, ziL, ziN, o1, o2, o3, a1, w1, LP, LC, lP, lC, ← hhq, LA, lA, LP1, LC1, lP1, lC1, Z1, lZ1, k5e, c1, c2, c3, c4, c5, c6, c7]
    exact R10.no hm (EQ.put _ (by omega)) hB (by decide)
  by_cases c8 : 8 < c.pool.pgs
  · have hB : chMay m c = 22 := by rw [hM]; unfold mayPoolF; rw [if_pos (by unfold poolBad; omega)]
    simp only [core, zrA, zrS, zrM, zrL, zrE, reduceCtorEq, zrD, ziE, ziL, ziN, o1, o2, o3, a1, w1, LP, LC, lP, lC, ← hhq, LA, lA, LP1, LC1, lP1, lC1, Z1, lZ1, k5e, c1, c2, c3, c4, c5, c6, c7, c8]
    exact R10.no hm (EQ.put _ (by omega)) hB (by decide)
  have hB : chMay m c = match poolF m c.pool.id with
    | some q => if q.pgs = c.pool.pgs then 0 else 126
    | none => 0 := by rw [hM]; unfold mayPoolF; rw [if_neg (by unfold poolBad; omega)] <;> rfl
  simp only [core, zrA, zrS, zrM, zrL, zrE, reduceCtorEq, zrD, ziE, ziL, ziN, o1, o2, o3, a1, w1, LP, LC, lP, lC, ← hhq, LA, lA, LP1, LC1, lP1, lC1, Z1, lZ1, k5e, c1, c2, c3, c4, c5, c6, c7, c8]
  refine (pool10_x c.pool.id (hm.ext EQ (Nat.le_refl _)) (Sm_le (Nat.le_succ _) hz.sp)).mono ?_
  rintro _ h2 ⟨e2, rfl⟩
  have E2 := EQ.step e2
  have f2 := e2.1
  obtain ⟨h3, hh3⟩ : ∃ h3, h3 = h2.push (.cells (pC' (poolG m c.pool.id)) 102) := ⟨_, rfl⟩
  have e3 : Ext h2.n h2 h3 := hh3 ▸ (Ext.refl _ _).push _ (Nat.le_refl _)
  have D3 : h3.at h2.n = some (.cells (pC' (poolG m c.pool.id)) 102) := hh3 ▸ at_push_n _ _
  unfold pC' at D3 hh3
  have n3 : h3.n = h2.n + 1 := by rw [hh3, n_push]
  have e23 := e2.trans (e3.mono f2)
  have A3 := (e23.2 _ lA).trans A0
  have P3 := (e23.2 _ lP1).trans P1
  have C3 := (e23.2 _ lC1).trans C1
  have Z3 := (e23.2 _ lZ1).trans Z1
  have LA3 := ld_at (T := tabOf Tryz.prog NT0) A3
  have LP3 := ld_at (T := tabOf Tryz.prog NT0) P3
  have LC3 := ld_at (T := tabOf Tryz.prog NT0) C3
  have LD3 := ld_at (T := tabOf Tryz.prog NT0) D3
  have lA3 := at_lt A3
  have lP3 := at_lt P3
  have lC3 := at_lt C3
  have lZ3 := at_lt Z3
  have lD3 := at_lt D3
  have E3 := E2.step e3
  have fin : WC Tryz.prog (tabOf Tryz.prog NT0) S0 58 [mpV m vo vp vb, poolV c.pool] h3 fun r h' => Ext h3.n h3 h' ∧ ∃ ro rp rb, r = mpV { m with pools := insP m.pools c.pool } ro rp rb ∧ MpAt (fun b => h3.n ≤ b) h' { m with pools := insP m.pools c.pool } ro rp rb := pooled10_x c.pool (hm.ext E3 (Nat.le_refl _)) hok hz.sp hc.hp
  cases hf : poolF m c.pool.id with
  | none =>
    rw [hf] at hB
    simp only [core, zrA, zrS, zrM, zrL, zrE, reduceCtorEq, zrD, ziE, ziL, ziN, o1, o2, o3, a1, w1, poolV, ← hh3, LA3, LP3, LC3, LD3, lA3, lP3, lC3, lZ3, lD3, Z3, hf, Option.isSome_none]
    refine fin.mono ?_
    rintro _ h4 ⟨e4, ro, rp, rb, rfl, m4⟩
    have Z4 := (e4.2 _ lZ3).trans Z3
    have lZ4 := at_lt Z4
    have f4 := e4.1
    have q1 := m4.o.one
    have q2 := m4.p.one
    have q3 := m4.b.one
    simp only [core, zrA, zrS, zrM, zrL, zrE, reduceCtorEq, zrD, ziE, ziL, ziN, mpV, q1, q2, q3, Z4, lZ4]
    have key := R10.yes (F := F) (H := H) (m := m) (c := c) (vo := ro) (vp := rp) (vb := rb) (h' := h4.put (H.n + 2) (.cells [.lit (.int .i64 m.epoch), ro, rp, rb, .lit (.int .i64 m.leaf)] 69)) (by rw [hE]; exact (m4.putLt (by omega)).monoN (by omega)) ((E3.step e4).put _ (by omega)) hB
    rw [hE] at key
    exact key
  | some q =>
    rw [hf] at hB
    have hG : poolG m c.pool.id = q := by unfold poolG; rw [hf]; rfl
    by_cases cq : q.pgs = c.pool.pgs
    · have cqn : ((poolG m c.pool.id).pgs != c.pool.pgs) = false := by rw [hG]; simp [cq]
      have hB : chMay m c = 0 := by rw [hB]; exact if_pos cq
      simp only [core, zrA, zrS, zrM, zrL, zrE, reduceCtorEq, zrD, ziE, ziL, ziN, o1, o2, o3, a1, w1, poolV, ← hh3, LA3, LP3, LC3, LD3, lA3, lP3, lC3, lZ3, lD3, Z3, hf, cqn, Option.isSome_some]
      refine fin.mono ?_
      rintro _ h4 ⟨e4, ro, rp, rb, rfl, m4⟩
      have Z4 := (e4.2 _ lZ3).trans Z3
      have lZ4 := at_lt Z4
      have f4 := e4.1
      have q1 := m4.o.one
      have q2 := m4.p.one
      have q3 := m4.b.one
      simp only [core, zrA, zrS, zrM, zrL, zrE, reduceCtorEq, zrD, ziE, ziL, ziN, mpV, q1, q2, q3, Z4, lZ4]
      have key := R10.yes (F := F) (H := H) (m := m) (c := c) (vo := ro) (vp := rp) (vb := rb) (h' := h4.put (H.n + 2) (.cells [.lit (.int .i64 m.epoch), ro, rp, rb, .lit (.int .i64 m.leaf)] 69)) (by rw [hE]; exact (m4.putLt (by omega)).monoN (by omega)) ((E3.step e4).put _ (by omega)) hB
      rw [hE] at key
      exact key
    · have cqn : ((poolG m c.pool.id).pgs != c.pool.pgs) = true := by rw [hG]; simp [cq]
      have hB : chMay m c = 126 := by rw [hB]; exact if_neg cq
      simp only [core, zrA, zrS, zrM, zrL, zrE, reduceCtorEq, zrD, ziE, ziL, ziN, o1, o2, o3, a1, w1, poolV, ← hh3, LA3, LP3, LC3, LD3, lA3, lP3, lC3, lZ3, lD3, Z3, hf, cqn, Option.isSome_some]
      exact R10.no hm (E3.put _ (by omega)) hB (by decide)
theorem others7_x {F F2 : Nat → Prop} {H : AH} {m : MapD} {vo vp vb va vw : AV} (c : ChD) (hm : MpAt F H m vo vp vb) (hok : OkMp m) (hz : MpSz m) (hc : ChIn F2 H c va vw) (hk : c.kind = 7) :
    WC Tryz.prog (tabOf Tryz.prog NT0) S0 44 [mpV m vo vp vb, chV c va vw] H (R10 F H m c) := by
  refine WC_fn Tryz.func44 rfl rfl ?_
  have o1 := hm.o.one
  have o2 := hm.p.one
  have o3 := hm.b.one
  have a1 := hc.a.one
  have w1 := hc.w.one
  have a2 := hc.a.isSl
  have a3 := hc.a.lenD
  obtain ⟨hp, hhp, EP, P0, C0, Z0, nP⟩ := made_boxes (H := H) (mC m vo vp vb) (cC c va vw) mz
  unfold mC at P0 hhp
  unfold cC at C0 hhp
  unfold mz at Z0 hhp
  have LP := ld_at (T := tabOf Tryz.prog NT0) P0
  have LC := ld_at (T := tabOf Tryz.prog NT0) C0
  have lP := at_lt P0
  have lC := at_lt C0
  have lZ := at_lt Z0
  have hne : ¬ H.n = H.n + 2 := by omega
  simp only [core, zrA, zrS, zrM, zrL, zrE, reduceCtorEq, zrD, ziE, ziL, ziN, Tryz.ntmps44, mpV, chV, o1, o2, o3, a1, w1]
  rw [← hhp]
  clear hhp
  have k5e : (c.kind == 5) = false := by rw [hk]; rfl
  have k6e : (c.kind == 6) = false := by rw [hk]; rfl
  have hM : chMay m c = if c.value < 0 ∨ 3 < c.value then 22 else 0 := by unfold chMay; rw [if_neg (by unfold isOs; omega), if_neg (by omega), if_neg (by omega), if_pos hk]
  have hE : chMade m c = { m with leaf := c.value } := by unfold chMade; rw [if_neg (by omega), if_neg (by omega), if_pos hk]
  by_cases c1 : c.value < 0
  · have hB : chMay m c = 22 := by rw [hM]; exact if_pos (.inl c1)
    simp only [core, zrA, zrS, zrM, zrL, zrE, reduceCtorEq, zrD, ziE, ziL, ziN, o1, o2, o3, a1, w1, a2, a3, LP, LC, P0, Z0, lP, lC, lZ, hne, k5e, k6e, c1]
    exact R10.no hm (EP.put _ (by omega)) hB (by decide)
  by_cases c2 : 3 < c.value
  · have hB : chMay m c = 22 := by rw [hM]; exact if_pos (.inr c2)
    simp only [core, zrA, zrS, zrM, zrL, zrE, reduceCtorEq, zrD, ziE, ziL, ziN, o1, o2, o3, a1, w1, a2, a3, LP, LC, P0, Z0, lP, lC, lZ, hne, k5e, k6e, c1, c2]
    exact R10.no hm (EP.put _ (by omega)) hB (by decide)
  have hB : chMay m c = 0 := by rw [hM]; exact if_neg (by omega)
  simp only [core, zrA, zrS, zrM, zrL, zrE, reduceCtorEq, zrD, ziE, ziL, ziN, o1, o2, o3, a1, w1, a2, a3, LP, LC, P0, Z0, lP, lC, lZ, hne, k5e, k6e, c1, c2]
  refine (copy10_x (hm.ext EP (Nat.le_refl _)) hok).mono ?_
  rintro _ h3 ⟨e3, ro, rp, rb, rfl, hown⟩
  have own3 := hown 0 (by omega)
  have m3 := own3.at (F := fun k => hp.n ≤ k) (fun _ h => h)
  have q1 := m3.o.one
  have q2 := m3.p.one
  have q3 := m3.b.one
  have P3 := (e3.2 _ lP).trans P0
  have C3 := (e3.2 _ lC).trans C0
  have Z3 := (e3.2 _ lZ).trans Z0
  have lP3 := at_lt P3
  have lC3 := at_lt C3
  have lZ3 := at_lt Z3
  have LC3 := ld_at (T := tabOf Tryz.prog NT0) C3
  have hn1 : ¬ H.n = H.n + 1 := by omega
  have E3 := EP.step e3
  have e12 : H.n + 1 = H.n + 1 := rfl
  simp only [core, zrA, zrS, zrM, zrL, zrE, reduceCtorEq, zrD, ziE, ziL, ziN, mpV, q1, q2, q3, P3, C3, Z3, LC3, lP3, lC3, lZ3, hne, hn1]
  have mE : MpAt (fun k => hp.n ≤ k) h3 (chMade m c) ro rp rb := by rw [hE]; exact ⟨m3.o, m3.p, m3.b⟩
  have key := R10.yes (F := F) (H := H) (m := m) (c := c) (((mE.putLt (p := H.n) (x := .cells [.lit (.int .i64 m.epoch), ro, rp, rb, .lit (.int .i64 m.leaf)] 69) (by omega)).putLt (p := H.n) (x := .cells [.lit (.int .i64 m.epoch), ro, rp, rb, .lit (.int .i64 c.value)] 69) (by omega)).putLt (p := H.n + 2) (x := .cells [.lit (.int .i64 m.epoch), ro, rp, rb, .lit (.int .i64 c.value)] 69) (by omega) |>.monoN (by omega)) (((E3.put _ (Nat.le_refl _)).put _ (Nat.le_refl _)).put _ (by omega)) hB
  rw [hE] at key
  exact key
theorem others6_x {F F2 : Nat → Prop} {H : AH} {m : MapD} {vo vp vb va vw : AV} (c : ChD) (hm : MpAt F H m vo vp vb) (hok : OkMp m) (hz : MpSz m) (hc : ChIn F2 H c va vw) (hk : c.kind = 6) :
    WC Tryz.prog (tabOf Tryz.prog NT0) S0 44 [mpV m vo vp vb, chV c va vw] H (R10 F H m c) := by
  refine WC_fn Tryz.func44 rfl rfl ?_
  have o1 := hm.o.one
  have o2 := hm.p.one
  have o3 := hm.b.one
  have a1 := hc.a.one
  have w1 := hc.w.one
  have a2 := hc.a.isSl
  have a3 := hc.a.lenD
  obtain ⟨hp, hhp, EP, P0, C0, Z0, nP⟩ := made_boxes (H := H) (mC m vo vp vb) (cC c va vw) mz
  unfold mC at P0 hhp
  unfold cC at C0 hhp
  unfold mz at Z0 hhp
  have LP := ld_at (T := tabOf Tryz.prog NT0) P0
  have LC := ld_at (T := tabOf Tryz.prog NT0) C0
  have lP := at_lt P0
  have lC := at_lt C0
  have lZ := at_lt Z0
  have hne : ¬ H.n = H.n + 2 := by omega
  simp only [core, zrA, zrS, zrM, zrL, zrE, reduceCtorEq, zrD, ziE, ziL, ziN, Tryz.ntmps44, mpV, chV, o1, o2, o3, a1, w1]
  rw [← hhp]
  clear hhp
  have k5e : (c.kind == 5) = false := by rw [hk]; rfl
  have k6e : (c.kind == 6) = true := by rw [hk]; rfl
  have hM : chMay m c = mayBktF m c.bucket := by unfold chMay; rw [if_neg (by unfold isOs; omega), if_neg (by omega), if_pos hk]
  have hE : chMade m c = withB m c.bucket := by unfold chMade; rw [if_neg (by omega), if_pos hk]
  by_cases c1 : c.bucket.id < -32
  · have hB : chMay m c = 22 := by rw [hM]; unfold mayBktF; rw [if_pos (.inl c1)]
    simp only [core, zrA, zrS, zrM, zrL, zrE, reduceCtorEq, zrD, ziE, ziL, ziN, o1, o2, o3, a1, w1, a2, a3, LP, LC, P0, Z0, lP, lC, lZ, hne, k5e, k6e, c1]
    exact R10.no hm (EP.put _ (by omega)) hB (by decide)
  by_cases c2 : -1 < c.bucket.id
  · have hB : chMay m c = 22 := by rw [hM]; unfold mayBktF; rw [if_pos (.inr c2)]
    simp only [core, zrA, zrS, zrM, zrL, zrE, reduceCtorEq, zrD, ziE, ziL, ziN, o1, o2, o3, a1, w1, a2, a3, LP, LC, P0, Z0, lP, lC, lZ, hne, k5e, k6e, c1, c2]
    exact R10.no hm (EP.put _ (by omega)) hB (by decide)
  have hB : chMay m c = if (bucketF m c.bucket.id).isNone = true ∧ c.bucket.items = [] then 2 else if goodF (withB m c.bucket) then 0 else 22 := by rw [hM]; unfold mayBktF; rw [if_neg (by omega)]
  simp only [core, zrA, zrS, zrM, zrL, zrE, reduceCtorEq, zrD, ziE, ziL, ziN, o1, o2, o3, a1, w1, a2, a3, LP, LC, P0, Z0, lP, lC, lZ, hne, k5e, k6e, c1, c2]
  refine (bucketR_x c.bucket.id (hm.ext EP (Nat.le_refl _)) (Sm_le (Nat.le_succ _) hz.sb)).mono ?_
  rintro _ h2 ⟨e2, va2, vw2, rfl, b1, b2⟩
  have x1 := b1.one
  have x2 := b2.one
  have E2 := EP.step e2
  have f2 := e2.1
  obtain ⟨h3, hh3⟩ : ∃ h3, h3 = h2.push (.cells [.lit (.int .i64 (bucketG m c.bucket.id).id), .lit (.int .i64 (bucketG m c.bucket.id).kind), va2, vw2] 109) := ⟨_, rfl⟩
  have e3 : Ext h2.n h2 h3 := hh3 ▸ (Ext.refl _ _).push _ (Nat.le_refl _)
  have n3 : h3.n = h2.n + 1 := by rw [hh3, n_push]
  have e23 := e2.trans (e3.mono f2)
  have P3 := (e23.2 _ lP).trans P0
  have C3 := (e23.2 _ lC).trans C0
  have Z3 := (e23.2 _ lZ).trans Z0
  have LP3 := ld_at (T := tabOf Tryz.prog NT0) P3
  have LC3 := ld_at (T := tabOf Tryz.prog NT0) C3
  have lP3 := at_lt P3
  have lC3 := at_lt C3
  have lZ3 := at_lt Z3
  have E3 := E2.step e3
  have hci : ((c.bucket.items.length : Int) == 0) = decide (c.bucket.items = []) := by
    by_cases h : c.bucket.items = []
    · rw [h]; rfl
    · rw [decide_eq_false h]; simp; exact h
  have fin : ∀ (hne : ¬ ((bucketF m c.bucket.id).isNone = true ∧ c.bucket.items = [])), WC Tryz.prog (tabOf Tryz.prog NT0) S0 60 [mpV m vo vp vb, bktV c.bucket va vw] h3 fun r h' => Ext h3.n h3 h' ∧ ∃ ro rp rb, r = mpV (withB m c.bucket) ro rp rb ∧ MpAt (fun b => h3.n ≤ b) h' (withB m c.bucket) ro rp rb := fun _ => bucketed10_x c.bucket (hm.ext E3 (Nat.le_refl _)) hok (up47 hz.sb) (hc.a.ext E3 (Nat.le_refl _)) (hc.w.ext E3 (Nat.le_refl _)) hc.la hc.lw hc.hi
  cases hb : bucketF m c.bucket.id with
  | none =>
    rw [hb] at fin hB
    by_cases ci : c.bucket.items = []
    · have hcd : decide (c.bucket.items = []) = true := decide_eq_true ci
      have hB : chMay m c = 2 := by rw [hB]; exact if_pos ⟨rfl, ci⟩
      simp only [core, zrA, zrS, zrM, zrL, zrE, reduceCtorEq, zrD, ziE, ziL, ziN, o1, o2, o3, a1, w1, a2, a3, bktV, x1, x2, ← hh3, LP3, LC3, lP3, lC3, lZ3, Z3, hci, hb, hcd, Option.isSome_none]
      exact R10.no hm (E3.put _ (by omega)) hB (by decide)
    have hcd : decide (c.bucket.items = []) = false := decide_eq_false ci
    have hB : chMay m c = if goodF (withB m c.bucket) then 0 else 22 := by rw [hB]; exact if_neg (fun hh => ci hh.2)
    simp only [core, zrA, zrS, zrM, zrL, zrE, reduceCtorEq, zrD, ziE, ziL, ziN, o1, o2, o3, a1, w1, a2, a3, bktV, x1, x2, ← hh3, LP3, LC3, lP3, lC3, lZ3, Z3, hci, hb, hcd, Option.isSome_none]
    refine (fin (fun hh => ci hh.2)).mono ?_
    rintro _ h4 ⟨e4, ro, rp, rb, rfl, m4⟩
    have q1 := m4.o.one
    have q2 := m4.p.one
    have q3 := m4.b.one
    have f4 := e4.1
    obtain ⟨h5, hh5⟩ : ∃ h5, h5 = h4.push (.cells [.lit (.int .i64 m.epoch), ro, rp, rb, .lit (.int .i64 m.leaf)] 69) := ⟨_, rfl⟩
    have e5 : Ext h4.n h4 h5 := hh5 ▸ (Ext.refl _ _).push _ (Nat.le_refl _)
    have D5 : h5.at h4.n = some (.cells [.lit (.int .i64 m.epoch), ro, rp, rb, .lit (.int .i64 m.leaf)] 69) := hh5 ▸ at_push_n _ _
    have n5 : h5.n = h4.n + 1 := by rw [hh5, n_push]
    have LD5 := ld_at (T := tabOf Tryz.prog NT0) D5
    have lD5 := at_lt D5
    have m5 := m4.ext e5 (Nat.le_refl _)
    have hw1 : (withB m c.bucket).epoch = m.epoch := rfl
    have hw2 : (withB m c.bucket).leaf = m.leaf := rfl
    simp only [core, zrA, zrS, zrM, zrL, zrE, reduceCtorEq, zrD, ziE, ziL, ziN, mpV, q1, q2, q3, ← hh5, LD5, hw1, hw2]
    refine (good_x m5 (withB_ok hz.sb hz.bk hc.la hc.lw)).mono ?_
    rintro _ h6 ⟨e6, rfl⟩
    have e46 := e4.trans ((e5.mono f4).trans (e6.mono (by omega)))
    have P6 := (e46.2 _ lP3).trans P3
    have Z6 := (e46.2 _ lZ3).trans Z3
    have D6 := (e6.2 _ lD5).trans D5
    have LP6 := ld_at (T := tabOf Tryz.prog NT0) P6
    have LD6 := ld_at (T := tabOf Tryz.prog NT0) D6
    have lZ6 := at_lt Z6
    have f6 := e6.1
    by_cases hg : goodF (withB m c.bucket) = true
    · have hB : chMay m c = 0 := by rw [hB]; exact if_pos hg
      simp only [core, zrA, zrS, zrM, zrL, zrE, reduceCtorEq, zrD, ziE, ziL, ziN, hg, LP6, LD6, Z6, lZ6, q1, q2, q3, o1, o2, o3]
      have key := R10.yes (F := F) (H := H) (m := m) (c := c) (vo := ro) (vp := rp) (vb := rb) (h' := h6.put (H.n + 2) (.cells [.lit (.int .i64 m.epoch), ro, rp, rb, .lit (.int .i64 m.leaf)] 69)) (by rw [hE]; exact ((m5.ext e6 (Nat.le_refl _)).putLt (by omega)).monoN (by omega)) ((E3.step e46).put _ (by omega)) hB
      rw [hE] at key
      exact key
    · have hgf : goodF (withB m c.bucket) = false := by simpa using hg
      have hB : chMay m c = 22 := by rw [hB]; exact if_neg hg
      simp only [core, zrA, zrS, zrM, zrL, zrE, reduceCtorEq, zrD, ziE, ziL, ziN, hgf, LP6, LD6, Z6, lZ6, q1, q2, q3, o1, o2, o3]
      exact R10.no hm ((E3.step e46).put _ (by omega)) hB (by decide)
  | some y =>
    rw [hb] at fin hB
    have hB : chMay m c = if goodF (withB m c.bucket) then 0 else 22 := by rw [hB]; exact if_neg (fun hh => by cases hh.1)
    obtain ⟨dd, hdd⟩ : ∃ dd, dd = decide (c.bucket.items = []) := ⟨_, rfl⟩
    rw [← hdd] at hci
    cases dd with
    | true =>
      simp only [core, zrA, zrS, zrM, zrL, zrE, reduceCtorEq, zrD, ziE, ziL, ziN, o1, o2, o3, a1, w1, a2, a3, bktV, x1, x2, ← hh3, LP3, LC3, lP3, lC3, lZ3, Z3, hci, hb, Option.isSome_some]
      refine (fin (fun hh => by cases hh.1)).mono ?_
      rintro _ h4 ⟨e4, ro, rp, rb, rfl, m4⟩
      have q1 := m4.o.one
      have q2 := m4.p.one
      have q3 := m4.b.one
      have f4 := e4.1
      obtain ⟨h5, hh5⟩ : ∃ h5, h5 = h4.push (.cells [.lit (.int .i64 m.epoch), ro, rp, rb, .lit (.int .i64 m.leaf)] 69) := ⟨_, rfl⟩
      have e5 : Ext h4.n h4 h5 := hh5 ▸ (Ext.refl _ _).push _ (Nat.le_refl _)
      have D5 : h5.at h4.n = some (.cells [.lit (.int .i64 m.epoch), ro, rp, rb, .lit (.int .i64 m.leaf)] 69) := hh5 ▸ at_push_n _ _
      have n5 : h5.n = h4.n + 1 := by rw [hh5, n_push]
      have LD5 := ld_at (T := tabOf Tryz.prog NT0) D5
      have lD5 := at_lt D5
      have m5 := m4.ext e5 (Nat.le_refl _)
      have hw1 : (withB m c.bucket).epoch = m.epoch := rfl
      have hw2 : (withB m c.bucket).leaf = m.leaf := rfl
      simp only [core, zrA, zrS, zrM, zrL, zrE, reduceCtorEq, zrD, ziE, ziL, ziN, mpV, q1, q2, q3, ← hh5, LD5, hw1, hw2]
      refine (good_x m5 (withB_ok hz.sb hz.bk hc.la hc.lw)).mono ?_
      rintro _ h6 ⟨e6, rfl⟩
      have e46 := e4.trans ((e5.mono f4).trans (e6.mono (by omega)))
      have P6 := (e46.2 _ lP3).trans P3
      have Z6 := (e46.2 _ lZ3).trans Z3
      have D6 := (e6.2 _ lD5).trans D5
      have LP6 := ld_at (T := tabOf Tryz.prog NT0) P6
      have LD6 := ld_at (T := tabOf Tryz.prog NT0) D6
      have lZ6 := at_lt Z6
      have f6 := e6.1
      by_cases hg : goodF (withB m c.bucket) = true
      · have hB : chMay m c = 0 := by rw [hB]; exact if_pos hg
        simp only [core, zrA, zrS, zrM, zrL, zrE, reduceCtorEq, zrD, ziE, ziL, ziN, hg, LP6, LD6, Z6, lZ6, q1, q2, q3, o1, o2, o3]
        have key := R10.yes (F := F) (H := H) (m := m) (c := c) (vo := ro) (vp := rp) (vb := rb) (h' := h6.put (H.n + 2) (.cells [.lit (.int .i64 m.epoch), ro, rp, rb, .lit (.int .i64 m.leaf)] 69)) (by rw [hE]; exact ((m5.ext e6 (Nat.le_refl _)).putLt (by omega)).monoN (by omega)) ((E3.step e46).put _ (by omega)) hB
        rw [hE] at key
        exact key
      · have hgf : goodF (withB m c.bucket) = false := by simpa using hg
        have hB : chMay m c = 22 := by rw [hB]; exact if_neg hg
        simp only [core, zrA, zrS, zrM, zrL, zrE, reduceCtorEq, zrD, ziE, ziL, ziN, hgf, LP6, LD6, Z6, lZ6, q1, q2, q3, o1, o2, o3]
        exact R10.no hm ((E3.step e46).put _ (by omega)) hB (by decide)
    | false =>
      simp only [core, zrA, zrS, zrM, zrL, zrE, reduceCtorEq, zrD, ziE, ziL, ziN, o1, o2, o3, a1, w1, a2, a3, bktV, x1, x2, ← hh3, LP3, LC3, lP3, lC3, lZ3, Z3, hci, hb, Option.isSome_some]
      refine (fin (fun hh => by cases hh.1)).mono ?_
      rintro _ h4 ⟨e4, ro, rp, rb, rfl, m4⟩
      have q1 := m4.o.one
      have q2 := m4.p.one
      have q3 := m4.b.one
      have f4 := e4.1
      obtain ⟨h5, hh5⟩ : ∃ h5, h5 = h4.push (.cells [.lit (.int .i64 m.epoch), ro, rp, rb, .lit (.int .i64 m.leaf)] 69) := ⟨_, rfl⟩
      have e5 : Ext h4.n h4 h5 := hh5 ▸ (Ext.refl _ _).push _ (Nat.le_refl _)
      have D5 : h5.at h4.n = some (.cells [.lit (.int .i64 m.epoch), ro, rp, rb, .lit (.int .i64 m.leaf)] 69) := hh5 ▸ at_push_n _ _
      have n5 : h5.n = h4.n + 1 := by rw [hh5, n_push]
      have LD5 := ld_at (T := tabOf Tryz.prog NT0) D5
      have lD5 := at_lt D5
      have m5 := m4.ext e5 (Nat.le_refl _)
      have hw1 : (withB m c.bucket).epoch = m.epoch := rfl
      have hw2 : (withB m c.bucket).leaf = m.leaf := rfl
      simp only [core, zrA, zrS, zrM, zrL, zrE, reduceCtorEq, zrD, ziE, ziL, ziN, mpV, q1, q2, q3, ← hh5, LD5, hw1, hw2]
      refine (good_x m5 (withB_ok hz.sb hz.bk hc.la hc.lw)).mono ?_
      rintro _ h6 ⟨e6, rfl⟩
      have e46 := e4.trans ((e5.mono f4).trans (e6.mono (by omega)))
      have P6 := (e46.2 _ lP3).trans P3
      have Z6 := (e46.2 _ lZ3).trans Z3
      have D6 := (e6.2 _ lD5).trans D5
      have LP6 := ld_at (T := tabOf Tryz.prog NT0) P6
      have LD6 := ld_at (T := tabOf Tryz.prog NT0) D6
      have lZ6 := at_lt Z6
      have f6 := e6.1
      by_cases hg : goodF (withB m c.bucket) = true
      · have hB : chMay m c = 0 := by rw [hB]; exact if_pos hg
        simp only [core, zrA, zrS, zrM, zrL, zrE, reduceCtorEq, zrD, ziE, ziL, ziN, hg, LP6, LD6, Z6, lZ6, q1, q2, q3, o1, o2, o3]
        have key := R10.yes (F := F) (H := H) (m := m) (c := c) (vo := ro) (vp := rp) (vb := rb) (h' := h6.put (H.n + 2) (.cells [.lit (.int .i64 m.epoch), ro, rp, rb, .lit (.int .i64 m.leaf)] 69)) (by rw [hE]; exact ((m5.ext e6 (Nat.le_refl _)).putLt (by omega)).monoN (by omega)) ((E3.step e46).put _ (by omega)) hB
        rw [hE] at key
        exact key
      · have hgf : goodF (withB m c.bucket) = false := by simpa using hg
        have hB : chMay m c = 22 := by rw [hB]; exact if_neg hg
        simp only [core, zrA, zrS, zrM, zrL, zrE, reduceCtorEq, zrD, ziE, ziL, ziN, hgf, LP6, LD6, Z6, lZ6, q1, q2, q3, o1, o2, o3]
        exact R10.no hm ((E3.step e46).put _ (by omega)) hB (by decide)
end Go.Proofs.YtfbpjobjdmmgiaaGreat.Ex
end

section

set_option linter.unusedSimpArgs false
set_option linter.unusedVariables false
set_option maxRecDepth 10000
set_option maxHeartbeats 4000000
namespace Go.Proofs.YtfbpjobjdmmgiaaGreat.Ex
open Go
theorem osdG_ok {F : Nat → Prop} {H : AH} {m : MapD} {vo vp vb : AV} (hm : MpAt F H m vo vp vb) (n : Int) : okO (osdG m n) := by
  unfold osdG
  split
  · rw [List.getD_eq_getElem?_getD]
    cases hq : m.osds[n.toNat]? with
    | none => exact okO0
    | some x =>
      obtain ⟨c, hc1, _⟩ := hm.o.get (T := tabOf Tryz.prog NT0) hq
      exact (ROsd_is.1 hc1).2
  · exact okO0
theorem made10O_x {F F2 : Nat → Prop} {H : AH} {m : MapD} {vo vp vb va vw : AV} (c : ChD) (hm : MpAt F H m vo vp vb) (hok : OkMp m) (hz : MpSz m) (hc : ChIn F2 H c va vw) (hk : isOs c.kind) :
    WC Tryz.prog (tabOf Tryz.prog NT0) S0 29 [mpV m vo vp vb, chV c va vw] H (R10 F H m c) := by
  refine WC_fn Tryz.func29 rfl rfl ?_
  have o1 := hm.o.one
  have o2 := hm.p.one
  have o3 := hm.b.one
  have a1 := hc.a.one
  have w1 := hc.w.one
  have I64w : I64 (65536 : Int) := by unfold I64; decide
  have kL : ¬ c.kind < 1 := by unfold isOs at hk; omega
  have kG : ¬ 7 < c.kind := by unfold isOs at hk; omega
  have kE : c.kind ≤ 4 := by unfold isOs at hk; omega
  obtain ⟨hp, hhp, EP, P0, C0, Z0, nP⟩ := made_boxes (H := H) (mC m vo vp vb) (cC c va vw) mz
  unfold mC at P0 hhp
  unfold cC at C0 hhp
  unfold mz at Z0 hhp
  have LP := ld_at (T := tabOf Tryz.prog NT0) P0
  have LC := ld_at (T := tabOf Tryz.prog NT0) C0
  have lP := at_lt P0
  have lC := at_lt C0
  have lZ := at_lt Z0
  have hM : chMay m c = if c.osd < 0 ∨ 8 ≤ c.osd then 22 else mayOsdF m c := by unfold chMay; rw [if_pos hk]
  by_cases q1 : c.osd < 0
  · have hB : chMay m c = 22 := by rw [hM]; exact if_pos (.inl q1)
    simp only [core, zrA, zrS, zrM, zrL, zrE, reduceCtorEq, zrD, ziE, ziL, ziN, Tryz.ntmps29, mpV, chV, o1, o2, o3, a1, w1, ← hhp, LP, LC, P0, Z0, lP, lC, lZ, kL, kG, kE, q1]
    exact R10.no hm (EP.put _ (by omega)) hB (by decide)
  by_cases q2 : 8 ≤ c.osd
  · have hB : chMay m c = 22 := by rw [hM]; exact if_pos (.inr q2)
    simp only [core, zrA, zrS, zrM, zrL, zrE, reduceCtorEq, zrD, ziE, ziL, ziN, Tryz.ntmps29, mpV, chV, o1, o2, o3, a1, w1, ← hhp, LP, LC, P0, Z0, lP, lC, lZ, kL, kG, kE, q1, q2]
    exact R10.no hm (EP.put _ (by omega)) hB (by decide)
  have hM : chMay m c = mayOs m.epoch (osdG m c.osd) c.kind c.value := by rw [hM]; exact if_neg (by omega)
  simp only [core, zrA, zrS, zrM, zrL, zrE, reduceCtorEq, zrD, ziE, ziL, ziN, Tryz.ntmps29, mpV, chV, o1, o2, o3, a1, w1, ← hhp, LP, LC, P0, Z0, lP, lC, lZ, kL, kG, kE, q1, q2]
  clear hhp
  refine (osdR_x c.osd (hm.ext EP (Nat.le_refl _)) hz.so).mono ?_
  rintro _ h2 ⟨e2, rfl⟩
  have okx := osdG_ok hm c.osd
  obtain ⟨k, hk2⟩ : ∃ k : Nat, c.osd = (k : Int) := ⟨c.osd.toNat, by omega⟩
  have hk8 : k < 8 := by omega
  have hE : chMade m c = setO m k (newOs m.epoch (osdG m c.osd) c.kind c.value) := by
    unfold chMade
    unfold isOs at hk
    rw [if_neg (by omega), if_neg (by omega), if_neg (by omega), hk2]
    rfl
  obtain ⟨oo, hoo⟩ : ∃ oo, oo = osdG m c.osd := ⟨_, rfl⟩
  rw [← hoo] at hM okx hE ⊢
  clear hoo
  obtain ⟨ex, up, w, bt, uf, ut⟩ := oo
  unfold okO at okx
  simp only at okx
  obtain ⟨h3, hh3⟩ : ∃ h3, h3 = h2.push (.cells [.lit (.bool ex), .lit (.bool up), .lit (.int .i64 w), .lit (.int .i64 bt), .lit (.int .i64 uf), .lit (.int .i64 ut)] 121) := ⟨_, rfl⟩
  have e3 : Ext h2.n h2 h3 := hh3 ▸ (Ext.refl _ _).push _ (Nat.le_refl _)
  have D3 : h3.at h2.n = some (.cells [.lit (.bool ex), .lit (.bool up), .lit (.int .i64 w), .lit (.int .i64 bt), .lit (.int .i64 uf), .lit (.int .i64 ut)] 121) := hh3 ▸ at_push_n _ _
  have n3 : h3.n = h2.n + 1 := by rw [hh3, n_push]
  have f2 := e2.1
  have e23 := e2.trans (e3.mono f2)
  have P3 := (e23.2 _ lP).trans P0
  have C3 := (e23.2 _ lC).trans C0
  have Z3 := (e23.2 _ lZ).trans Z0
  have LP3 := ld_at (T := tabOf Tryz.prog NT0) P3
  have LC3 := ld_at (T := tabOf Tryz.prog NT0) C3
  have LD3 := ld_at (T := tabOf Tryz.prog NT0) D3
  have lP3 := at_lt P3
  have lC3 := at_lt C3
  have lZ3 := at_lt Z3
  have lD3 := at_lt D3
  have E3 := (EP.step e2).step e3
  have ho0 : ¬ h2.n = H.n := by omega
  have ho1 : ¬ h2.n = H.n + 1 := by omega
  have ho2 : ¬ h2.n = H.n + 2 := by omega
  have fin : ∀ (h : AH) (y : OsdD), okO y → Ext H.n H h → h3.n ≤ h.n → h.at (H.n + 2) = some (.cells [.lit (.int .i64 0), .lit (.slice none 0 0), .lit (.slice none 0 0), .lit (.slice none 0 0), .lit (.int .i64 0)] 69) → newOs m.epoch ⟨ex, up, w, bt, uf, ut⟩ c.kind c.value = y → chMay m c = 0 → WC Tryz.prog (tabOf Tryz.prog NT0) S0 45 [mpV m vo vp vb, .lit (.int .i64 (k : Int)), osdV y] h fun r h' =>
      ∃ ro rp rb, ro.one = true ∧ rp.one = true ∧ rb.one = true ∧ r = mpV (chMade m c) ro rp rb ∧ h'.at (H.n + 2) = some (.cells [.lit (.int .i64 0), .lit (.slice none 0 0), .lit (.slice none 0 0), .lit (.slice none 0 0), .lit (.int .i64 0)] 69) ∧ ∀ X, R10 F H m c (.tup [mpV (chMade m c) ro rp rb, .lit (.int .i64 0)]) (h'.put (H.n + 2) X) := by
    intro h y hy hEh hn hZ hnew hB
    refine (set10_x y (hm.ext hEh (Nat.le_refl _)) hok hk8 hy).mono ?_
    rintro _ h4 ⟨e4, ro, rp, rb, rfl, m4⟩
    rw [hnew] at hE
    rw [← hE] at m4 ⊢
    have f4 := e4.1
    exact ⟨ro, rp, rb, m4.o.one, m4.p.one, m4.b.one, rfl, (e4.2 _ (by omega)).trans hZ, fun X => R10.yes ((m4.putLt (by omega)).monoN (by omega)) ((hEh.step e4).put _ (by omega)) hB⟩
  have kk0 := hk
  rcases kk0 with kk | kk | kk | kk
  · skip
    have k1e : (c.kind == 1) = true := by simp [kk]
    by_cases c1 : c.value < 1
    · skip
      have hB : chMay m c = 22 := by rw [hM]; simp [mayOs, kk, c1]
      simp only [core, zrA, zrS, zrM, zrL, zrE, reduceCtorEq, zrD, ziE, ziL, ziN, o1, o2, o3, a1, w1, ← hh3, LP3, LC3, LD3, D3, Z3, lP3, lC3, lZ3, lD3, ho0, ho1, ho2, osdV, k1e, c1]
      exact R10.no hm (E3.put _ (by omega)) hB (by decide)
    cases ex with
    | false =>
      have hB : chMay m c = 0 := by rw [hM]; simp [mayOs, kk, c1]
      have hC := hE
      simp only [core, zrA, zrS, zrM, zrL, zrE, reduceCtorEq, zrD, ziE, ziL, ziN, o1, o2, o3, a1, w1, ← hh3, LP3, LC3, LD3, D3, Z3, lP3, lC3, lZ3, lD3, ho0, ho1, ho2, osdV, k1e, c1, hk2]
      rw [WB_regionD [0, 1, 2, 3, 4, 5, 6, 7, 8, 9, 10, 11, 12] 374075901471492738749618992937956824810286382850048 (by kernel_rfl)]
      repeat (first | ((with_reducible refine WDM_cons ?_; simp only [dw1]; try simp only [dw2, zrA, zrM, zrR, zrO, zrE]); simp only [core, zrA, zrS, zrM, zrL, zrE, reduceCtorEq, zrD, ziE, ziL, ziN, cored, o1, o2, o3, a1, w1, ← hh3, LP3, LC3, LD3, D3, Z3, lP3, lC3, lZ3, lD3, ho0, ho1, ho2, osdV, k1e, c1, hk2, same_int]) | simp only [core, zrA, zrS, zrM, zrL, zrE, reduceCtorEq, zrD, ziE, ziL, ziN, cored, o1, o2, o3, a1, w1, ← hh3, LP3, LC3, LD3, D3, Z3, lP3, lC3, lZ3, lD3, ho0, ho1, ho2, osdV, k1e, c1, hk2, same_int])
      refine (fin _ ⟨true, true, 65536, c.value, IntKind.i64.wrap (m.epoch + 1), ut⟩ ⟨I64w, hc.hv, wrap_I64 _, okx.2.2.2⟩ ?_ ?_ ?_ (by simp [newOs, kk, c1]) hB).mono ?_
      · refine Ext.put _ (Ext.put _ (Ext.put _ (Ext.put _ ?_ (by omega)) (by omega)) (by omega)) (by omega)
        first | exact E3 | exact E3.put _ (by omega)
      · simp only [n_put]; exact Nat.le_refl _
      · simp only [at_put_ne _ ho2]; exact Z3
      rintro _ h4 ⟨ro, rp, rb, z1, z2, z3, rfl, Z4, hR⟩
      have lZ4 := at_lt Z4
      simp only [core, zrA, zrS, zrM, zrL, zrE, reduceCtorEq, zrD, ziE, ziL, ziN, mpV, z1, z2, z3, Z4, lZ4]
      exact hR _
    | true =>
      by_cases c2 : c.value ≤ bt
      · skip
        have hB : chMay m c = 126 := by rw [hM]; simp [mayOs, kk, c1, c2]
        simp only [core, zrA, zrS, zrM, zrL, zrE, reduceCtorEq, zrD, ziE, ziL, ziN, o1, o2, o3, a1, w1, ← hh3, LP3, LC3, LD3, D3, Z3, lP3, lC3, lZ3, lD3, ho0, ho1, ho2, osdV, k1e, c1, c2]
        exact R10.no hm (E3.put _ (by omega)) hB (by decide)
      · skip
        have hB : chMay m c = 0 := by rw [hM]; simp [mayOs, kk, c1, c2]
        have hC := hE
        simp only [core, zrA, zrS, zrM, zrL, zrE, reduceCtorEq, zrD, ziE, ziL, ziN, o1, o2, o3, a1, w1, ← hh3, LP3, LC3, LD3, D3, Z3, lP3, lC3, lZ3, lD3, ho0, ho1, ho2, osdV, k1e, c1, c2, hk2]
        rw [WB_regionD [0, 1, 2, 3, 4, 5, 6, 7, 8, 9, 10, 11, 12] 374075901471492738749618992937956824810286382850048 (by kernel_rfl)]
        repeat (first | ((with_reducible refine WDM_cons ?_; simp only [dw1]; try simp only [dw2, zrA, zrM, zrR, zrO, zrE]); simp only [core, zrA, zrS, zrM, zrL, zrE, reduceCtorEq, zrD, ziE, ziL, ziN, cored, o1, o2, o3, a1, w1, ← hh3, LP3, LC3, LD3, D3, Z3, lP3, lC3, lZ3, lD3, ho0, ho1, ho2, osdV, k1e, c1, c2, hk2, same_int]) | simp only [core, zrA, zrS, zrM, zrL, zrE, reduceCtorEq, zrD, ziE, ziL, ziN, cored, o1, o2, o3, a1, w1, ← hh3, LP3, LC3, LD3, D3, Z3, lP3, lC3, lZ3, lD3, ho0, ho1, ho2, osdV, k1e, c1, c2, hk2, same_int])
        refine (fin _ ⟨true, true, w, c.value, IntKind.i64.wrap (m.epoch + 1), ut⟩ ⟨okx.1, hc.hv, wrap_I64 _, okx.2.2.2⟩ ?_ ?_ ?_ (by simp [newOs, kk, c1, c2]) hB).mono ?_
        · refine Ext.put _ (Ext.put _ (Ext.put _ (Ext.put _ ?_ (by omega)) (by omega)) (by omega)) (by omega)
          first | exact E3 | exact E3.put _ (by omega)
        · simp only [n_put]; exact Nat.le_refl _
        · simp only [at_put_ne _ ho2]; exact Z3
        rintro _ h4 ⟨ro, rp, rb, z1, z2, z3, rfl, Z4, hR⟩
        have lZ4 := at_lt Z4
        simp only [core, zrA, zrS, zrM, zrL, zrE, reduceCtorEq, zrD, ziE, ziL, ziN, mpV, z1, z2, z3, Z4, lZ4]
        exact hR _
  · skip
    have k1e : (c.kind == 1) = false := by simp [kk]
    have k2e : (c.kind == 2) = true := by simp [kk]
    cases ex with
    | false =>
      have hB : chMay m c = 2 := by rw [hM]; simp [mayOs, kk]
      simp only [core, zrA, zrS, zrM, zrL, zrE, reduceCtorEq, zrD, ziE, ziL, ziN, o1, o2, o3, a1, w1, ← hh3, LP3, LC3, LD3, D3, Z3, lP3, lC3, lZ3, lD3, ho0, ho1, ho2, osdV, k1e, k2e]
      exact R10.no hm (E3.put _ (by omega)) hB (by decide)
    | true =>
      cases up with
      | false =>
        have hB : chMay m c = 126 := by rw [hM]; simp [mayOs, kk]
        simp only [core, zrA, zrS, zrM, zrL, zrE, reduceCtorEq, zrD, ziE, ziL, ziN, o1, o2, o3, a1, w1, ← hh3, LP3, LC3, LD3, D3, Z3, lP3, lC3, lZ3, lD3, ho0, ho1, ho2, osdV, k1e, k2e]
        exact R10.no hm (E3.put _ (by omega)) hB (by decide)
      | true =>
        by_cases c2 : c.value = bt
        · have c2n : (bt != c.value) = false := by simp [c2]
          have hB : chMay m c = 0 := by rw [hM]; simp [mayOs, kk, c2]
          have hC := hE
          simp only [core, zrA, zrS, zrM, zrL, zrE, reduceCtorEq, zrD, ziE, ziL, ziN, o1, o2, o3, a1, w1, ← hh3, LP3, LC3, LD3, D3, Z3, lP3, lC3, lZ3, lD3, ho0, ho1, ho2, osdV, k1e, k2e, c2n, hk2]
          refine (fin _ ⟨true, false, w, bt, uf, ut⟩ ⟨okx.1, okx.2.1, okx.2.2.1, okx.2.2.2⟩ ?_ ?_ ?_ (by simp [newOs, kk, c2]) hB).mono ?_
          · first | exact E3.put _ (by omega) | exact (E3.put _ (by omega)).put _ (by omega)
          · simp only [n_put]; exact Nat.le_refl _
          · simp only [at_put_ne _ ho2]; exact Z3
          rintro _ h4 ⟨ro, rp, rb, z1, z2, z3, rfl, Z4, hR⟩
          have lZ4 := at_lt Z4
          simp only [core, zrA, zrS, zrM, zrL, zrE, reduceCtorEq, zrD, ziE, ziL, ziN, mpV, z1, z2, z3, Z4, lZ4]
          exact hR _
        · have c2n : (bt != c.value) = true := by simp; exact fun hh => c2 hh.symm
          have hB : chMay m c = 126 := by rw [hM]; simp [mayOs, kk, c2]
          simp only [core, zrA, zrS, zrM, zrL, zrE, reduceCtorEq, zrD, ziE, ziL, ziN, o1, o2, o3, a1, w1, ← hh3, LP3, LC3, LD3, D3, Z3, lP3, lC3, lZ3, lD3, ho0, ho1, ho2, osdV, k1e, k2e, c2n]
          exact R10.no hm (E3.put _ (by omega)) hB (by decide)
  · skip
    have k1e : (c.kind == 1) = false := by simp [kk]
    have k2e : (c.kind == 2) = false := by simp [kk]
    have k3e : (c.kind == 3) = true := by simp [kk]
    cases ex with
    | false =>
      have hB : chMay m c = 2 := by rw [hM]; simp [mayOs, kk]
      simp only [core, zrA, zrS, zrM, zrL, zrE, reduceCtorEq, zrD, ziE, ziL, ziN, o1, o2, o3, a1, w1, ← hh3, LP3, LC3, LD3, D3, Z3, lP3, lC3, lZ3, lD3, ho0, ho1, ho2, osdV, k1e, k2e, k3e]
      exact R10.no hm (E3.put _ (by omega)) hB (by decide)
    | true =>
      by_cases c1 : c.value < 0
      · skip
        have hB : chMay m c = 22 := by rw [hM]; simp [mayOs, kk, c1]
        simp only [core, zrA, zrS, zrM, zrL, zrE, reduceCtorEq, zrD, ziE, ziL, ziN, o1, o2, o3, a1, w1, ← hh3, LP3, LC3, LD3, D3, Z3, lP3, lC3, lZ3, lD3, ho0, ho1, ho2, osdV, k1e, k2e, k3e, c1]
        exact R10.no hm (E3.put _ (by omega)) hB (by decide)
      by_cases c2 : 65536 < c.value
      · skip
        have hB : chMay m c = 22 := by rw [hM]; simp [mayOs, kk, c1, c2]
        simp only [core, zrA, zrS, zrM, zrL, zrE, reduceCtorEq, zrD, ziE, ziL, ziN, o1, o2, o3, a1, w1, ← hh3, LP3, LC3, LD3, D3, Z3, lP3, lC3, lZ3, lD3, ho0, ho1, ho2, osdV, k1e, k2e, k3e, c1, c2]
        exact R10.no hm (E3.put _ (by omega)) hB (by decide)
      have hB : chMay m c = 0 := by rw [hM]; simp [mayOs, kk, c1, c2]
      have hC := hE
      simp only [core, zrA, zrS, zrM, zrL, zrE, reduceCtorEq, zrD, ziE, ziL, ziN, o1, o2, o3, a1, w1, ← hh3, LP3, LC3, LD3, D3, Z3, lP3, lC3, lZ3, lD3, ho0, ho1, ho2, osdV, k1e, k2e, k3e, c1, c2, hk2]
      refine (fin _ ⟨true, up, c.value, bt, uf, ut⟩ ⟨hc.hv, okx.2⟩ ?_ ?_ ?_ (by simp [newOs, kk, c1, c2]) hB).mono ?_
      · first | exact E3.put _ (by omega) | exact (E3.put _ (by omega)).put _ (by omega)
      · simp only [n_put]; exact Nat.le_refl _
      · simp only [at_put_ne _ ho2]; exact Z3
      rintro _ h4 ⟨ro, rp, rb, z1, z2, z3, rfl, Z4, hR⟩
      have lZ4 := at_lt Z4
      simp only [core, zrA, zrS, zrM, zrL, zrE, reduceCtorEq, zrD, ziE, ziL, ziN, mpV, z1, z2, z3, Z4, lZ4]
      exact hR _
  · skip
    have k1e : (c.kind == 1) = false := by simp [kk]
    have k2e : (c.kind == 2) = false := by simp [kk]
    have k3e : (c.kind == 3) = false := by simp [kk]
    have k4e : (c.kind == 4) = true := by simp [kk]
    cases ex with
    | false =>
      have hB : chMay m c = 2 := by rw [hM]; simp [mayOs, kk]
      simp only [core, zrA, zrS, zrM, zrL, zrE, reduceCtorEq, zrD, ziE, ziL, ziN, o1, o2, o3, a1, w1, ← hh3, LP3, LC3, LD3, D3, Z3, lP3, lC3, lZ3, lD3, ho0, ho1, ho2, osdV, k1e, k2e, k3e, k4e]
      exact R10.no hm (E3.put _ (by omega)) hB (by decide)
    | true =>
      cases up with
      | false =>
        have hB : chMay m c = 2 := by rw [hM]; simp [mayOs, kk]
        simp only [core, zrA, zrS, zrM, zrL, zrE, reduceCtorEq, zrD, ziE, ziL, ziN, o1, o2, o3, a1, w1, ← hh3, LP3, LC3, LD3, D3, Z3, lP3, lC3, lZ3, lD3, ho0, ho1, ho2, osdV, k1e, k2e, k3e, k4e]
        exact R10.no hm (E3.put _ (by omega)) hB (by decide)
      | true =>
        by_cases c1 : c.value < 0
        · skip
          have hB : chMay m c = 22 := by rw [hM]; simp [mayOs, kk, c1]
          simp only [core, zrA, zrS, zrM, zrL, zrE, reduceCtorEq, zrD, ziE, ziL, ziN, o1, o2, o3, a1, w1, ← hh3, LP3, LC3, LD3, D3, Z3, lP3, lC3, lZ3, lD3, ho0, ho1, ho2, osdV, k1e, k2e, k3e, k4e, c1]
          exact R10.no hm (E3.put _ (by omega)) hB (by decide)
        by_cases c2 : m.epoch < c.value
        · skip
          have hB : chMay m c = 22 := by rw [hM]; simp [mayOs, kk, c1, c2]
          simp only [core, zrA, zrS, zrM, zrL, zrE, reduceCtorEq, zrD, ziE, ziL, ziN, o1, o2, o3, a1, w1, ← hh3, LP3, LC3, LD3, D3, Z3, lP3, lC3, lZ3, lD3, ho0, ho1, ho2, osdV, k1e, k2e, k3e, k4e, c1, c2]
          exact R10.no hm (E3.put _ (by omega)) hB (by decide)
        by_cases c3 : c.value ≤ ut
        · skip
          have hB : chMay m c = 126 := by rw [hM]; simp [mayOs, kk, c1, c2, c3]
          simp only [core, zrA, zrS, zrM, zrL, zrE, reduceCtorEq, zrD, ziE, ziL, ziN, o1, o2, o3, a1, w1, ← hh3, LP3, LC3, LD3, D3, Z3, lP3, lC3, lZ3, lD3, ho0, ho1, ho2, osdV, k1e, k2e, k3e, k4e, c1, c2, c3]
          exact R10.no hm (E3.put _ (by omega)) hB (by decide)
        have hB : chMay m c = 0 := by rw [hM]; simp [mayOs, kk, c1, c2, c3]
        have hC := hE
        simp only [core, zrA, zrS, zrM, zrL, zrE, reduceCtorEq, zrD, ziE, ziL, ziN, o1, o2, o3, a1, w1, ← hh3, LP3, LC3, LD3, D3, Z3, lP3, lC3, lZ3, lD3, ho0, ho1, ho2, osdV, k1e, k2e, k3e, k4e, c1, c2, c3, hk2]
        refine (fin _ ⟨true, true, w, bt, uf, c.value⟩ ⟨okx.1, okx.2.1, okx.2.2.1, hc.hv⟩ ?_ ?_ ?_ (by simp [newOs, kk, c1, c2, c3]) hB).mono ?_
        · first | exact E3.put _ (by omega) | exact (E3.put _ (by omega)).put _ (by omega)
        · simp only [n_put]; exact Nat.le_refl _
        · simp only [at_put_ne _ ho2]; exact Z3
        rintro _ h4 ⟨ro, rp, rb, z1, z2, z3, rfl, Z4, hR⟩
        have lZ4 := at_lt Z4
        simp only [core, zrA, zrS, zrM, zrL, zrE, reduceCtorEq, zrD, ziE, ziL, ziN, mpV, z1, z2, z3, Z4, lZ4]
        exact hR _
end Go.Proofs.YtfbpjobjdmmgiaaGreat.Ex
end

section

set_option linter.unusedSimpArgs false
set_option linter.unusedVariables false
set_option maxRecDepth 10000
set_option maxHeartbeats 4000000
namespace Go.Proofs.YtfbpjobjdmmgiaaGreat.Ex
open Go
theorem others10_x {F F2 : Nat → Prop} {H : AH} {m : MapD} {vo vp vb va vw : AV} (c : ChD) (hm : MpAt F H m vo vp vb) (hok : OkMp m) (hz : MpSz m) (hc : ChIn F2 H c va vw) (hk : c.kind = 5 ∨ c.kind = 6 ∨ c.kind = 7) :
    WC Tryz.prog (tabOf Tryz.prog NT0) S0 44 [mpV m vo vp vb, chV c va vw] H (R10 F H m c) := by
  rcases hk with hk | hk | hk
  · exact others5_x c hm hok hz hc hk
  · exact others6_x c hm hok hz hc hk
  · exact others7_x c hm hok hz hc hk
theorem R10.up {F : Nat → Prop} {H h h' : AH} {m : MapD} {c : ChD} {r : AV} (hr : R10 F h m c r h') (he : Ext H.n H h) : R10 F H m c r h' := by
  obtain ⟨e, n, ro, rp, rb, hr, hm, hn⟩ := hr
  have f := he.1
  exact ⟨he.step e, n, ro, rp, rb, hr, ⟨hm.o.lift fun b hb _ => ⟨rfl, hb.imp id fun h => by omega⟩, hm.p.lift fun b hb _ => ⟨rfl, hb.imp id fun h => by omega⟩, hm.b.lift fun b hb _ => ⟨rfl, hb.imp id fun h => by omega⟩⟩, hn⟩
theorem ChIn.ext {F : Nat → Prop} {H h : AH} {c : ChD} {va vw : AV} (hc : ChIn F H c va vw) (he : Ext H.n H h) : ChIn F h c va vw :=
  ⟨hc.a.ext he (Nat.le_refl _), hc.w.ext he (Nat.le_refl _), hc.la, hc.lw, hc.hi, hc.hp, hc.hv⟩
theorem made10_x {F F2 : Nat → Prop} {H : AH} {m : MapD} {vo vp vb va vw : AV} (c : ChD) (hF : ∀ k, F k → k < H.n) (hm : MpAt F H m vo vp vb) (hok : OkMp m) (hz : MpSz m) (hc : ChIn F2 H c va vw) :
    WC Tryz.prog (tabOf Tryz.prog NT0) S0 29 [mpV m vo vp vb, chV c va vw] H (R10 F H m c) := by
  by_cases hk : isOs c.kind
  · exact made10O_x c hm hok hz hc hk
  refine WC_fn Tryz.func29 rfl rfl ?_
  have o1 := hm.o.one
  have o2 := hm.p.one
  have o3 := hm.b.one
  have a1 := hc.a.one
  have w1 := hc.w.one
  obtain ⟨hp, hhp, EP, P0, C0, Z0, nP⟩ := made_boxes (H := H) (mC m vo vp vb) (cC c va vw) mz
  unfold mC at P0 hhp
  unfold cC at C0 hhp
  unfold mz at Z0 hhp
  have LP := ld_at (T := tabOf Tryz.prog NT0) P0
  have LC := ld_at (T := tabOf Tryz.prog NT0) C0
  have lP := at_lt P0
  have lC := at_lt C0
  have lZ := at_lt Z0
  by_cases k0 : c.kind < 1
  · have hB : chMay m c = 22 := by unfold chMay; rw [if_neg hk, if_neg (by omega), if_neg (by omega), if_neg (by omega)]
    simp only [core, zrA, zrS, zrM, zrL, zrE, reduceCtorEq, zrD, ziE, ziL, ziN, Tryz.ntmps29, mpV, chV, o1, o2, o3, a1, w1, ← hhp, LP, LC, P0, Z0, lP, lC, lZ, k0]
    exact R10.no hm (EP.put _ (by omega)) hB (by decide)
  by_cases k8 : 7 < c.kind
  · have hB : chMay m c = 22 := by unfold chMay; rw [if_neg hk, if_neg (by omega), if_neg (by omega), if_neg (by omega)]
    simp only [core, zrA, zrS, zrM, zrL, zrE, reduceCtorEq, zrD, ziE, ziL, ziN, Tryz.ntmps29, mpV, chV, o1, o2, o3, a1, w1, ← hhp, LP, LC, P0, Z0, lP, lC, lZ, k0, k8]
    exact R10.no hm (EP.put _ (by omega)) hB (by decide)
  have k4 : ¬ c.kind ≤ 4 := by unfold isOs at hk; omega
  have e1 : (c.kind == 1) = false := by unfold isOs at hk; simp; omega
  have e2 : (c.kind == 2) = false := by unfold isOs at hk; simp; omega
  have e3 : (c.kind == 3) = false := by unfold isOs at hk; simp; omega
  have e4 : (c.kind == 4) = false := by unfold isOs at hk; simp; omega
  simp only [core, zrA, zrS, zrM, zrL, zrE, reduceCtorEq, zrD, ziE, ziL, ziN, Tryz.ntmps29, mpV, chV, o1, o2, o3, a1, w1, ← hhp, LP, LC, P0, Z0, lP, lC, lZ, k0, k8, k4, aundef]
  clear hhp
  refine (osdR_x c.osd (hm.ext EP (Nat.le_refl _)) hz.so).mono ?_
  rintro _ h2 ⟨f2, rfl⟩
  obtain ⟨h3, hh3⟩ : ∃ h3, h3 = h2.push (.cells (oC' (osdG m c.osd)) 121) := ⟨_, rfl⟩
  have f3 : Ext h2.n h2 h3 := hh3 ▸ (Ext.refl _ _).push _ (Nat.le_refl _)
  unfold oC' at hh3
  have n3 : h3.n = h2.n + 1 := by rw [hh3, n_push]
  have g2 := f2.1
  have e23 := f2.trans (f3.mono g2)
  have P3 := (e23.2 _ lP).trans P0
  have C3 := (e23.2 _ lC).trans C0
  have Z3 := (e23.2 _ lZ).trans Z0
  have LP3 := ld_at (T := tabOf Tryz.prog NT0) P3
  have LC3 := ld_at (T := tabOf Tryz.prog NT0) C3
  have lP3 := at_lt P3
  have lC3 := at_lt C3
  have lZ3 := at_lt Z3
  have E3 := (EP.step f2).step f3
  simp only [core, zrA, zrS, zrM, zrL, zrE, reduceCtorEq, zrD, ziE, ziL, ziN, osdV, o1, o2, o3, a1, w1, ← hh3, LP3, LC3, lP3, lC3, e1, e2, e3, e4]
  refine (others10_x c (hm.ext E3 (Nat.le_refl _)) hok hz (hc.ext E3) (by omega)).mono ?_
  rintro _ h4 ⟨f4, n, ro, rp, rb, rfl, m4, hn⟩
  have q1 := m4.o.one
  have q2 := m4.p.one
  have q3 := m4.b.one
  have Z4 := (f4.2 _ lZ3).trans Z3
  have lZ4 := at_lt Z4
  have g4 := f4.1
  simp only [core, zrA, zrS, zrM, zrL, zrE, reduceCtorEq, zrD, ziE, ziL, ziN, mpV, q1, q2, q3, Z4, lZ4]
  have g3 := E3.1
  refine ⟨(E3.step f4).put _ (by omega), n, ro, rp, rb, rfl, ⟨m4.o.lift fun b hb _ => ⟨at_put_ne _ ?_, ?_⟩, m4.p.lift fun b hb _ => ⟨at_put_ne _ ?_, ?_⟩, m4.b.lift fun b hb _ => ⟨at_put_ne _ ?_, ?_⟩⟩, hn⟩
  all_goals (rcases hb with hb | hb)
  all_goals (first | (have := hF _ hb; omega) | omega | exact .inl hb | exact .inr (by omega))
theorem Apply10_x {F : Nat → Prop} {H : AH} {m : MapD} {vo vp vb vc : AV} (x : IncD) (hm : MpAt F H m vo vp vb) (hok : OkMp m) (he : I64 m.epoch) (hxe : I64 x.epoch) (hcs : IsSl RCh F H vc x.changes) (sc : Sm 88 x.changes) (hsz : ∀ c ∈ x.changes, Sm 8 c.bucket.items ∧ Sm 8 c.bucket.weights)
    (hst : ∀ i n, i ≤ x.changes.length → applyC m (x.changes.take i) = (n, 0) → MpSz n ∧ OkMp n) :
    WC Tryz.prog (tabOf Tryz.prog NT0) S0 17 [mpV m vo vp vb, incV x vc] H fun r h' => Ext H.n H h' ∧ ∃ ro rp rb, r = .tup [mpV (applyD m x).1 ro rp rb, .lit (.int .i64 (applyD m x).2)] ∧ MpAt (fun k => H.n ≤ k) h' (applyD m x).1 ro rp rb := by
  refine WC_fn Tryz.func17 rfl rfl ?_
  have o1 := hm.o.one
  have o2 := hm.p.one
  have o3 := hm.b.one
  have c1 := hcs.one
  have c2 := hcs.isSl
  have c3 := hcs.lenD
  obtain ⟨hp, hhp, EP, P0, C0, Z0, nP⟩ := made_boxes (H := H) (mC m vo vp vb) (.cells [.lit (.int .i64 x.epoch), vc] 90) mz
  unfold mC at P0 hhp
  unfold mz at Z0 hhp
  have LP := ld_at (T := tabOf Tryz.prog NT0) P0
  have LC := ld_at (T := tabOf Tryz.prog NT0) C0
  have lP := at_lt P0
  have lC := at_lt C0
  have lZ := at_lt Z0
  unfold I64 at he hxe
  by_cases hE : x.epoch = m.epoch + 1
  · have hM : ¬ m.epoch = 9223372036854775807 := by omega
    have hws : IntKind.i64.wrap (x.epoch - 1) = m.epoch := (wrap_in (by omega) (by omega)).trans (by omega)
    have hEe : (m.epoch != m.epoch) = false := by simp
    have hEl : ¬ x.epoch < m.epoch := by omega
    simp only [core, zrA, zrS, zrM, zrL, zrE, reduceCtorEq, zrD, ziE, ziL, ziN, Tryz.ntmps17, mpV, incV, o1, o2, o3, c1, ← hhp, LP, LC, lP, lC, hws, hEe, hEl]
    refine (copy10_x (hm.ext EP (Nat.le_refl _)) hok).mono ?_
    rintro _ h3 ⟨e3, ro, rp, rb, rfl, hown⟩
    have C3 := (e3.2 _ lC).trans C0
    have l3 := e3.1
    obtain ⟨h4, hh4⟩ : ∃ h4, h4 = h3.push (.cells [.lit (.int .i64 m.epoch), ro, rp, rb, .lit (.int .i64 m.leaf)] 69) := ⟨_, rfl⟩
    have e4 : Ext h3.n h3 h4 := hh4 ▸ (Ext.refl _ _).push _ (Nat.le_refl _)
    have W4 : h4.at h3.n = some (.cells [.lit (.int .i64 m.epoch), ro, rp, rb, .lit (.int .i64 m.leaf)] 69) := hh4 ▸ at_push_n _ _
    have n4 : h4.n = h3.n + 1 := by rw [hh4, n_push]
    have hw3 := (hown 0 (by omega)).at (F := fun k => hp.n ≤ k) (fun _ h => h)
    have w1 := hw3.o.one
    have w2 := hw3.p.one
    have w3 := hw3.b.one
    have C4 := (e4.2 _ (at_lt C3)).trans C3
    have LC4 := ld_at (T := tabOf Tryz.prog NT0) C4
    have lC4 := at_lt C4
    simp only [core, zrA, zrS, zrM, zrL, zrE, reduceCtorEq, zrD, ziE, ziL, ziN, mpV, w1, w2, w3, ← hh4, LC4, lC4, c1, c2, c3]
    clear hh4
    obtain ⟨q, hq⟩ : ∃ q, q = h3.n := ⟨_, rfl⟩
    obtain ⟨N, hN⟩ : ∃ N, N = x.changes.length := ⟨_, rfl⟩
    have mt4 : MpAt (fun k => hp.n ≤ k ∧ k ≠ q) h4 m ro rp rb := ⟨hw3.o.lift fun b hb hlt => ⟨e4.2 _ hlt, hb, by omega⟩, hw3.p.lift fun b hb hlt => ⟨e4.2 _ hlt, hb, by omega⟩, hw3.b.lift fun b hb hlt => ⟨e4.2 _ hlt, hb, by omega⟩⟩
    rw [← hq] at W4 n4
    rw [← hq, ← hN]
    rw [← hN] at c3
    have E4 : Ext hp.n hp h4 := e3.trans (e4.mono l3)
    refine WB_for N (fun i t h => ∃ n v1 v2 v3, applyC m (x.changes.take i) = (n, 0) ∧ h.at q = some (.cells [.lit (.int .i64 n.epoch), v1, v2, v3, .lit (.int .i64 n.leaf)] 69) ∧ MpAt (fun k => hp.n ≤ k ∧ k ≠ q) h n v1 v2 v3 ∧ Ext hp.n hp h ∧ h4.n ≤ h.n ∧ t.n = 48 ∧ t.get 2 = .ptr H.n 0 ∧ t.get 3 = .ptr (H.n + 1) 0 ∧ t.get 4 = .ptr (H.n + 2) 0 ∧ t.get 6 = .ptr q 0 ∧ t.get 27 = vc ∧ t.get 28 = .lit (.int .i64 N) ∧ t.get 29 = .lit (.int .i64 i)) ?_ ?_ _ _ ?_
    · rintro i t h hlt hc ⟨n, v1, v2, v3, hap, WQ, own, he', lh4, hn, g2, g3, g4, g6, g27, g28, g29⟩ ih
      obtain ⟨c, hx⟩ : ∃ c, x.changes[i]? = some c := ⟨_, List.getElem?_eq_getElem (by omega)⟩
      obtain ⟨hzn, hon⟩ := hst i n (by omega) hap
      have EH : Ext H.n H h := EP.trans (he'.mono (by omega))
      obtain ⟨cc, hc1, hld, hld0⟩ := hcs.atE (T := tabOf Tryz.prog NT0) EH RCh_z hx
      obtain ⟨va, vw, rfl, ha, hw, ⟨i1, i2, i3⟩, i4, i5⟩ := RCh_is.1 hc1
      have a1 := ha.one
      have b1 := hw.one
      obtain ⟨la, lw⟩ := hsz c (List.mem_of_getElem? hx)
      have hwi := wrap_succ (n := N) hlt (by have := sc; unfold Sm at this; omega)
      obtain ⟨hA, hhA⟩ : ∃ hA, hA = h.push (cC c va vw) := ⟨_, rfl⟩
      have eA : Ext h.n h hA := hhA ▸ (Ext.refl _ _).push _ (Nat.le_refl _)
      have XA : hA.at h.n = some (cC c va vw) := hhA ▸ at_push_n _ _
      have nA : hA.n = h.n + 1 := by rw [hhA, n_push]
      unfold cC at XA hhA
      have LXA := ld_at (T := tabOf Tryz.prog NT0) XA
      have QA := (eA.2 _ (at_lt WQ)).trans WQ
      have LQA := ld_at (T := tabOf Tryz.prog NT0) QA
      have EA := EH.step eA
      have m1 : MpAt (fun k => (hp.n ≤ k ∧ k ≠ q) ∧ k < hA.n) hA n v1 v2 v3 := ⟨own.o.lift fun b hb hlt => ⟨eA.2 _ hlt, hb, by omega⟩, own.p.lift fun b hb hlt => ⟨eA.2 _ hlt, hb, by omega⟩, own.b.lift fun b hb hlt => ⟨eA.2 _ hlt, hb, by omega⟩⟩
      have y1 := m1.o.one
      have y2 := m1.p.one
      have y3 := m1.b.one
      have f1 : hp.n ≤ h.n := he'.1
      have f2 : q < h.n := at_lt WQ
      simp only [core, zrA, zrS, zrM, zrL, zrE, reduceCtorEq, zrD, ziE, ziL, ziN, c2, c3, hn, g2, g3, g4, g6, g27, g28, g29, hlt, hc, hld, hld0, a1, b1, ← hhA, LXA, LQA, y1, y2, y3]
      refine (made10_x c (fun k hk => hk.2) m1 hon hzn ⟨ha.ext EA (Nat.le_refl _), hw.ext EA (Nat.le_refl _), la, lw, i5, i4, i3⟩).mono ?_
      rintro _ h6 ⟨e6, n6, r1, r2, r3, rfl, m6, hn6⟩
      have Q6 := (e6.2 _ (at_lt QA)).trans QA
      have lQ6 := at_lt Q6
      have z1 := m6.o.one
      have z2 := m6.p.one
      have z3 := m6.b.one
      have f6 := e6.1
      have heN := (he'.trans (eA.mono f1)).trans (e6.mono (by omega))
      by_cases hmay : chMay n c = 0
      · have hmn : (chMay n c != 0) = false := by simp [hmay]
        simp only [core, zrA, zrS, zrM, zrL, zrE, reduceCtorEq, zrD, ziE, ziL, ziN, mpV, hn, g2, g3, g4, g6, g27, g28, g29, Q6, lQ6, z1, z2, z3, hwi, hmn]
        have hn7 := hn6 hmay
        subst hn7
        refine ih _ _ ⟨chMade n c, r1, r2, r3, by rw [applyC_succ hx hap, if_pos hmay], at_put_same _ lQ6, ?_, heN.put _ (by omega), by rw [n_put]; omega, ?_⟩
        · refine ⟨m6.o.lift fun b hb _ => ?_, m6.p.lift fun b hb _ => ?_, m6.b.lift fun b hb _ => ?_⟩
          all_goals (have hb' : hp.n ≤ b ∧ b ≠ q := by rcases hb with hb | hb <;> omega)
          all_goals exact ⟨at_put_ne _ (Ne.symm hb'.2), hb'⟩
        · simp only [core, zrA, zrS, zrM, zrL, zrE, reduceCtorEq, zrD, ziE, ziL, ziN, hn, g2, g3, g4, g6, g27, g28, g29]
      · have hmn : (chMay n c != 0) = true := by simp [hmay]
        have Z6 := (heN.2 _ (by omega)).trans Z0
        have lZ6 := at_lt Z6
        have hqz : ¬ q = H.n + 2 := by omega
        have hD : applyD m x = (map0, chMay n c) := by
          unfold applyD
          rw [if_neg (fun hh => hh.elim hM (fun h => h hE)), applyC_err hx hap hmay, if_neg hmay]
        simp only [core, zrA, zrS, zrM, zrL, zrE, reduceCtorEq, zrD, ziE, ziL, ziN, mpV, hn, g2, g3, g4, g6, g27, g28, g29, Q6, lQ6, z1, z2, z3, hmn, Z6, lZ6, hqz]
        rw [hD]
        exact ⟨((EP.trans (heN.mono (by omega))).put _ (by omega)).put _ (by omega), _, _, _, rfl, at0⟩
    · rintro t h hc ⟨n, v1, v2, v3, hap, WQ, own, he', lh4, hn, g2, g3, g4, g6, g27, g28, g29⟩
      rw [hN, List.take_length] at hap
      have EH : Ext H.n H h := EP.trans (he'.mono (by omega))
      have ZH := (he'.2 _ (by omega)).trans Z0
      have CH := (he'.2 _ lC).trans C0
      have LCH := ld_at (T := tabOf Tryz.prog NT0) CH
      have lCH := at_lt CH
      have lZH := at_lt ZH
      have LQ := ld_at (T := tabOf Tryz.prog NT0) WQ
      have lQ := at_lt WQ
      have y1 := own.o.one
      have y2 := own.p.one
      have y3 := own.b.one
      have hne : ¬ q = H.n + 2 := by omega
      have hne1 : ¬ q = H.n + 1 := by omega
      have hD : applyD m x = ({ n with epoch := x.epoch }, 0) := by
        unfold applyD
        rw [if_neg (fun hh => hh.elim hM (fun h => h hE)), hap, if_pos rfl]
      simp only [core, zrA, zrS, zrM, zrL, zrE, reduceCtorEq, zrD, ziE, ziL, ziN, hn, g2, g3, g4, g6, g27, g28, g29, hc, WQ, LQ, lQ, ZH, lZH, LCH, lCH, hne, hne1, y1, y2, y3, c1]
      rw [hD]
      refine ⟨(EH.put _ (by omega)).put _ (by omega), v1, v2, v3, rfl, ⟨own.o.lift fun b hb _ => ?_, own.p.lift fun b hb _ => ?_, own.b.lift fun b hb _ => ?_⟩⟩
      all_goals exact ⟨by rw [at_put_ne _ (by omega), at_put_ne _ (by omega)], by omega⟩
    · refine ⟨m, ro, rp, rb, rfl, W4, mt4, E4, Nat.le_refl _, ?_⟩
      simp only [core, zrA, zrS, zrM, zrL, zrE, reduceCtorEq, zrD, ziE, ziL, ziN]
      rfl
  · have hA : applyD m x = (map0, 126) := by unfold applyD; rw [if_pos (.inr hE)]
    by_cases hw : IntKind.i64.wrap (x.epoch - 1) = m.epoch
    · have hEe : (m.epoch != m.epoch) = false := by simp
      have hEl : x.epoch < m.epoch := by
        rw [IntKind.wrap_i64] at hw
        omega
      simp only [core, zrA, zrS, zrM, zrL, zrE, reduceCtorEq, zrD, ziE, ziL, ziN, Tryz.ntmps17, mpV, incV, o1, o2, o3, c1, ← hhp, LP, LC, lP, lC, Z0, lZ, hw, hEe, hEl]
      rw [hA]
      exact ⟨EP.put _ (by omega), _, _, _, rfl, at0⟩
    · have hEe : (IntKind.i64.wrap (x.epoch - 1) != m.epoch) = true := by simp [hw]
      simp only [core, zrA, zrS, zrM, zrL, zrE, reduceCtorEq, zrD, ziE, ziL, ziN, Tryz.ntmps17, mpV, incV, o1, o2, o3, c1, ← hhp, LP, LC, lP, lC, Z0, lZ, hEe]
      rw [hA]
      exact ⟨EP.put _ (by omega), _, _, _, rfl, at0⟩
end Go.Proofs.YtfbpjobjdmmgiaaGreat.Ex
end

section

set_option linter.unusedSimpArgs false
set_option linter.unusedVariables false
set_option maxRecDepth 10000
set_option maxHeartbeats 4000000
namespace Go.Proofs.YtfbpjobjdmmgiaaGreat.Ex
open Go
theorem Play10_x {F : Nat → Prop} {H : AH} {v : AV} (l : List IncD) (hl : IsSl RInc F H v l) (hlen : l.length ≤ 1000000) (hN : chgN l ≤ 2000000) (hi : ∀ x ∈ l, ∀ c ∈ x.changes, c.bucket.items.length ≤ 1048576) (hsz : ∀ x ∈ l, Sm 88 x.changes ∧ ∀ c ∈ x.changes, Sm 8 c.bucket.items ∧ Sm 8 c.bucket.weights) :
    WC Tryz.prog (tabOf Tryz.prog NT0) S0 6 [v] H fun r h' => Ext H.n H h' ∧ ∃ rv, r = .tup [rv, .lit (.int .i64 (playD l).2)] ∧ IsSl RMp (fun k => H.n ≤ k) h' rv (playD l).1 := by
  refine WC_fn Tryz.func6 rfl rfl ?_
  have s1 := hl.isSl
  have d1 := hl.lenD
  have c1 := hl.one
  obtain ⟨N, hNN⟩ : ∃ N, N = l.length := ⟨_, rfl⟩
  rw [← hNN] at d1
  have E1 : Ext H.n H H := Ext.refl _ _
  simp only [core, zrA, zrS, zrM, zrL, zrE, reduceCtorEq, zrD, ziE, ziL, ziN, Tryz.ntmps6, s1, d1, c1]
  refine WB_for N (fun i t h => (∃ ms s', playC [map0] (l.take i) = (ms, 0) ∧ OwnQ H.n h s' ms ∧ Ext H.n H h ∧ t.get 4 = s') ∧ t.n = 37 ∧ t.get 11 = v ∧ t.get 12 = .lit (.int .i64 N) ∧ t.get 13 = .lit (.int .i64 i)) ?_ ?_ _ _ ?_
  · rintro i t h hlt hc ⟨⟨ms, s', hpl, ho, EH, g4⟩, hn, g11, g12, g13⟩ ih
    obtain ⟨x, hx⟩ : ∃ x, l[i]? = some x := ⟨_, List.getElem?_eq_getElem (by omega)⟩
    have hxm := List.mem_of_getElem? hx
    obtain ⟨cc, hc1, hld, hld0⟩ := hl.atE (T := tabOf Tryz.prog NT0) EH RInc_z hx
    obtain ⟨vc, rfl, hcs, hex⟩ := RInc_is.1 hc1
    have v1 := hcs.one
    have hwi := wrap_succ (n := N) hlt (by omega)
    have pok := playC_ok plOk0 (r := l.take i) (fun x hx => hi x (List.mem_of_mem_take hx)) (by rw [hpl])
    have hlen1 := playC_len (r := l.take i) (l := [map0]) (by rw [hpl])
    rw [hpl] at pok hlen1
    simp only [List.length_singleton, List.length_take] at hlen1
    have hL : ms.length = i + 1 := by omega
    have hkk : chgN (l.take i) + x.changes.length ≤ 2000000 := Nat.le_trans (chgN_mem hx) hN
    have hlast := last_get pok.ne
    obtain ⟨m, hm⟩ : ∃ m, m = ms.getLastD map0 := ⟨_, rfl⟩
    rw [← hm] at hlast
    obtain ⟨hep, hst⟩ := pok.st _ _ hlast
    have hst : StOk m (chgN (l.take i)) := hst.mono (by unfold chgN; omega)
    rw [hL] at hlast
    have hlast : ms[i]? = some m := by rw [show i + 1 - 1 = i by omega] at hlast; exact hlast
    have hiI : IntKind.i64.wrap (((i + 1 : Nat) : Int) - 1) = (i : Int) := (wrap_in (by omega) (by omega)).trans (by omega)
    have hms := ho.toSl
    have t1 := hms.isSl
    have t2 := hms.lenD
    have t3 := hms.one
    rw [hL] at t2
    have hii : i < i + 1 := Nat.lt_succ_self i
    obtain ⟨hA, hhA⟩ : ∃ hA, hA = h.push (.cells [.lit (.int .i64 x.epoch), vc] 90) := ⟨_, rfl⟩
    have eA : Ext h.n h hA := hhA ▸ (Ext.refl _ _).push _ (Nat.le_refl _)
    have XA : hA.at h.n = some (.cells [.lit (.int .i64 x.epoch), vc] 90) := hhA ▸ at_push_n _ _
    have nA : hA.n = h.n + 1 := by rw [hhA, n_push]
    have LXA := ld_at (T := tabOf Tryz.prog NT0) XA
    have lXA := at_lt XA
    obtain ⟨cm, hcm, hld2, hld3⟩ := (ho.ext eA (Nat.le_refl _)).toSl.at (T := tabOf Tryz.prog NT0) RMp_z hlast
    obtain ⟨vo, vp, vb, rfl, io, ip, ib, ie, il⟩ := RMp_is.1 hcm
    have y1 := io.one
    have y2 := ip.one
    have y3 := ib.one
    obtain ⟨hB, hhB⟩ : ∃ hB, hB = hA.push (.cells [.lit (.int .i64 0), .lit (.slice none 0 0), .lit (.slice none 0 0), .lit (.slice none 0 0), .lit (.int .i64 0)] 69) := ⟨_, rfl⟩
    have eB : Ext hA.n hA hB := hhB ▸ (Ext.refl _ _).push _ (Nat.le_refl _)
    have ZB : hB.at (h.n + 1) = some (.cells [.lit (.int .i64 0), .lit (.slice none 0 0), .lit (.slice none 0 0), .lit (.slice none 0 0), .lit (.int .i64 0)] 69) := hhB ▸ nA ▸ at_push_n _ _
    have nB : hB.n = h.n + 2 := by rw [hhB, n_push, nA]
    have mA : MpAt (fun k => H.n ≤ k) hA m vo vp vb := ⟨io, ip, ib⟩
    have mB := mA.ext eB (Nat.le_refl _)
    have EB := (EH.step eA).step eB
    have hcB := hcs.ext EB (Nat.le_refl _)
    simp only [core, zrA, zrS, zrM, zrL, zrE, reduceCtorEq, zrD, ziE, ziL, ziN, s1, d1, hn, g11, g12, g13, g4, hlt, hc, hld, hld0, v1, ← hhA]
    rw [WB_regionD [0, 1, 2, 3, 4, 5, 6, 11, 7, 8, 9, 10, 12, 13] 50211832898441925088707678219553080127943048334723847815168 (by kernel_rfl)]
    have v2 := hcs.isSl
    have y4 := io.isSl
    have y5 := ip.isSl
    have y6 := ib.isSl
    have XB := (eB.2 _ lXA).trans XA
    have LXB := ld_at (T := tabOf Tryz.prog NT0) XB
    obtain ⟨cm2, hcm2, hld4, hld5⟩ := ((ho.ext eA (Nat.le_refl _)).ext eB (Nat.le_refl _)).toSl.at (T := tabOf Tryz.prog NT0) RMp_z hlast
    have hcells : cm2 = [.lit (.int .i64 m.epoch), vo, vp, vb, .lit (.int .i64 m.leaf)] := by
      have q1 := hld5 69 5 (by kernel_rfl) (by decide) (by decide)
      have q2 := hld3 69 5 (by kernel_rfl) (by decide) (by decide)
      have hk : loadA (tabOf Tryz.prog NT0) hB 69 (slB s') (slO s' + i * 5) = loadA (tabOf Tryz.prog NT0) hA 69 (slB s') (slO s' + i * 5) := by
        have hlt2 : slB s' < hA.n := by
          obtain ⟨L, r1, -⟩ := (ho.ext eA (Nat.le_refl _)).toSl.out
          rcases r1.2 with ⟨hh, h0⟩ | ⟨b, off, cap, row, hh, h1, h2⟩
          · have := t2
            rw [hh] at this
            simp [lenD] at this
          · rw [hh]
            exact getR_lt h1
        unfold loadA getR
        rw [eB.2 _ hlt2]
      rw [q1, q2] at hk
      obtain ⟨_, _, _, hh, -⟩ := RMp_is.1 hcm2
      have hl5 := RMp.len hcm2
      have r1 : ldL (tabOf Tryz.prog NT0) 69 cm2 0 = some (.agg cm2) := by
        unfold ldL
        rw [show isAggT (tabOf Tryz.prog NT0) 69 = some true by kernel_rfl, show sizeT (tabOf Tryz.prog NT0) 69 = some 5 by kernel_rfl]
        simp only [cut]
        rw [hh]
        rfl
      rw [r1] at hk
      have r2 : ldL (tabOf Tryz.prog NT0) 69 [.lit (.int .i64 m.epoch), vo, vp, vb, .lit (.int .i64 m.leaf)] 0 = some (.agg [.lit (.int .i64 m.epoch), vo, vp, vb, .lit (.int .i64 m.leaf)]) := by
        unfold ldL
        rw [show isAggT (tabOf Tryz.prog NT0) 69 = some true by kernel_rfl, show sizeT (tabOf Tryz.prog NT0) 69 = some 5 by kernel_rfl]
        rfl
      rw [r2] at hk
      cases hk
      rfl
    subst hcells
    repeat ((with_reducible refine WDM_cons ?_; simp only [dw1]; try simp only [dw2, zrA, zrM, zrR, zrO, zrE]); simp only [core, zrA, zrS, zrM, zrL, zrE, reduceCtorEq, zrD, ziE, ziL, ziN, cored, s1, d1, hn, g11, g12, g13, g4, hlt, hc, hld, hld0, v1, LXA, lXA, t1, t2, t3, hL, hii, hiI, hld2, hld3, y1, y2, y3, nA, ← hhB])
    refine ⟨by simp only [core, zrA, zrS, zrM, zrL, zrE, reduceCtorEq, zrD, ziE, ziL, ziN, cored, LXB, hld4, hld5, same_agg, same_int, same_sl, v2, y4, y5, y6, v1, y1, y2, y3, List.zip_cons_cons, List.zip_nil_left, List.all_cons, List.all_nil], ?_⟩
    have mBT : MpAt (fun _ => True) hB m vo vp vb := ⟨mB.o.lift fun _ _ _ => ⟨rfl, trivial⟩, mB.p.lift fun _ _ _ => ⟨rfl, trivial⟩, mB.b.lift fun _ _ _ => ⟨rfl, trivial⟩⟩
    have hcT : IsSl RCh (fun _ => True) hB vc x.changes := hcB.lift fun _ _ _ => ⟨rfl, trivial⟩
    refine (Apply10_x x mBT (hst.ok (by omega)) ie hex hcT (hsz x hxm).1 (hsz x hxm).2 (fun j n hj ha => ⟨(hst.run (hi x hxm) ha).sz (by omega), (hst.run (hi x hxm) ha).ok (by omega)⟩)).mono ?_
    rintro _ h5 ⟨e5, ro, rp, rb, rfl, m5⟩
    have Z5 := (e5.2 _ (at_lt ZB)).trans ZB
    have lZ5 := at_lt Z5
    have f5 := e5.1
    have z1 := m5.o.one
    have z2 := m5.p.one
    have z3 := m5.b.one
    by_cases h0 : (applyD m x).2 = 0
    · have hmn : ((applyD m x).2 != 0) = false := by simp [h0]
      have h7 := applyD_st hst (hi x hxm) h0
      obtain ⟨n, hn'⟩ : ∃ n, n = (applyD m x).1 := ⟨_, rfl⟩
      rw [← hn'] at m5 h7
      repeat ((with_reducible refine WDM_cons ?_; simp only [dw1]; try simp only [dw2, zrA, zrM, zrR, zrO, zrE]); simp only [core, zrA, zrS, zrM, zrL, zrE, reduceCtorEq, zrD, ziE, ziL, ziN, cored, mpV, ← hn', hn, g11, g12, g13, g4, Z5, lZ5, z1, z2, z3, t1, t3, hmn])
      obtain ⟨hD, hhD⟩ : ∃ hD, hD = (h5.put (h.n + 1) (.cells [.lit (.int .i64 n.epoch), ro, rp, rb, .lit (.int .i64 n.leaf)] 69)).push (.cells [.lit (.int .i64 n.epoch), ro, rp, rb, .lit (.int .i64 n.leaf)] 69) := ⟨_, rfl⟩
      have eD : Ext h.n h hD := hhD ▸ ((((eA.trans (eB.mono (by omega))).trans (e5.mono (by omega))).put _ (by omega)).push _ (by rw [n_put]; omega))
      have nD : hD.n = h5.n + 1 := by rw [hhD, n_push, n_put]
      have AD : hD.at h5.n = some (.cells [.lit (.int .i64 n.epoch), ro, rp, rb, .lit (.int .i64 n.leaf)] 69) := by
        have := at_push_n (h5.put (h.n + 1) (.cells [.lit (.int .i64 n.epoch), ro, rp, rb, .lit (.int .i64 n.leaf)] 69)) (.cells [.lit (.int .i64 n.epoch), ro, rp, rb, .lit (.int .i64 n.leaf)] 69)
        rw [n_put] at this
        rw [hhD]
        exact this
      have kD : ∀ b, hB.n ≤ b → b < h5.n → hD.at b = h5.at b := fun b h1 h2 => by rw [hhD, at_push_lt _ (by rw [n_put]; exact h2), at_put_ne _ (by omega)]
      have hap : ∀ b, hB.n ≤ b → Apart s' b := fun b hb off k cap hv => by
        obtain ⟨L, r1, -⟩ := ho.toSl.out
        rcases r1.2 with ⟨hh, _⟩ | ⟨b', off', cap', row, hh, q1, q2⟩
        · rw [hh] at hv; cases hv
        · have := getR_lt q1
          rw [hh] at hv
          cases hv
          omega
      rw [← hhD]
      refine WOp_app ((ho.ext eD (Nat.le_refl _)).snoc (x := n) AD (RMp_is.2 ⟨ro, rp, rb, rfl, ?_, ?_, ?_, ?_, h7.1.leaf⟩) (by have := EH.1; omega) (by omega)) ?_
      · exact m5.o.lift fun b hb hlt => ⟨kD b hb hlt, by have := EH.1; omega, hap b hb⟩
      · exact m5.p.lift fun b hb hlt => ⟨kD b hb hlt, by have := EH.1; omega, hap b hb⟩
      · exact m5.b.lift fun b hb hlt => ⟨kD b hb hlt, by have := EH.1; omega, hap b hb⟩
      · have h72 : n.epoch = m.epoch + 1 := h7.2.2
        have hep2 : m.epoch = (i : Int) := by rw [hep]; show ((ms.length - 1 : Nat) : Int) = i; omega
        rw [h72, hep2]; unfold I64; omega
      rintro s2 h8 ⟨ho8, e8⟩
      have u1 := ho8.toSl.one
      have u2 := ho8.toSl.isSl
      simp only [core, zrA, zrS, zrM, zrL, zrE, reduceCtorEq, zrD, ziE, ziL, ziN, hn, g11, g12, g13, g4, u1, u2, hwi]
      refine ih _ _ ⟨⟨ms ++ [n], s2, ?_, ho8, ?_, by simp only [core, zrA, zrS, zrM, zrL, zrE, reduceCtorEq, zrD, ziE, ziL, ziN, hn, g11, g12, g13]⟩, ?_⟩
      · rw [playC_succ hx hpl, ← hm, if_pos h0, hn']
      · exact (EH.trans (eD.mono EH.1)).trans e8
      · simp only [core, zrA, zrS, zrM, zrL, zrE, reduceCtorEq, zrD, ziE, ziL, ziN, hn, g11, g12, g13]
    · have hmn : ((applyD m x).2 != 0) = true := by simp [h0]
      have hP : playD l = ([], (applyD m x).2) := by unfold playD; rw [playC_err hx hpl (by rw [← hm]; exact h0), ← hm]
      repeat ((with_reducible refine WDM_cons ?_; simp only [dw1]; try simp only [dw2, zrA, zrM, zrR, zrO, zrE]); simp only [core, zrA, zrS, zrM, zrL, zrE, reduceCtorEq, zrD, ziE, ziL, ziN, cored, mpV, hn, g11, g12, g13, g4, Z5, lZ5, z1, z2, z3, t1, t3, hmn])
      rw [hP]
      exact ⟨((EB.step e5).put _ (by have := EH.1; omega)), _, rfl, .nil⟩
  · rintro t h hc ⟨⟨ms, s', hpl, ho, EH, g4⟩, hn, g11, g12, g13⟩
    rw [hNN, List.take_length] at hpl
    have hP : playD l = (ms, 0) := hpl
    have t3 := ho.toSl.one
    simp only [core, zrA, zrS, zrM, zrL, zrE, reduceCtorEq, zrD, ziE, ziL, ziN, s1, d1, hn, g11, g12, g13, g4, hc, t3]
    rw [hP]
    exact ⟨EH, s', rfl, ho.toSl⟩
  · refine ⟨⟨[map0], .sl H.n 0 1 (.kn 1), rfl, .inr ⟨H.n, _, map0, E1.1, rfl, rfl, at_push_n _ _, RMp_is.2 ⟨_, _, _, rfl, .nil, .nil, .nil, by unfold I64 map0; decide, by unfold I64 map0; decide⟩⟩, E1.push _ E1.1, by simp only [core, zrA, zrS, zrM, zrL, zrE, reduceCtorEq, zrD, ziE, ziL, ziN]⟩, ?_⟩
    simp only [core, zrA, zrS, zrM, zrL, zrE, reduceCtorEq, zrD, ziE, ziL, ziN]
    rfl
end Go.Proofs.YtfbpjobjdmmgiaaGreat.Ex
end

section

set_option linter.unusedSimpArgs false
set_option linter.unusedVariables false
set_option maxRecDepth 10000
set_option maxHeartbeats 4000000
namespace Go.Proofs.YtfbpjobjdmmgiaaGreat.Ex
open Go
def RU64 : Rep Nat where
  z := 1
  is _ _ c x := c = [.lit (.int .u64 x)] ∧ x < 18446744073709551616
  len := fun ⟨h, _⟩ => by subst h; rfl
  one := fun ⟨h, _⟩ v hv => by subst h; simp at hv; subst hv; rfl
  lift := fun h _ => h
def RCut : Rep (Nat × Nat) := RPair RU64 RU64
theorem RCut_z : RCut.z = 2 := rfl
theorem RCut_is {F : Nat → Prop} {h : AH} {c : List AV} {x : Nat × Nat} : RCut.is F h c x ↔ c = [.lit (.int .u64 x.1), .lit (.int .u64 x.2)] ∧ x.1 < 18446744073709551616 ∧ x.2 < 18446744073709551616 := by
  constructor
  · rintro ⟨_, _, rfl, ⟨rfl, h1⟩, rfl, h2⟩
    exact ⟨rfl, h1, h2⟩
  · rintro ⟨rfl, h1, h2⟩
    exact ⟨[_], [_], rfl, ⟨rfl, h1⟩, rfl, h2⟩
theorem chgN_drop (l : List IncD) (i : Nat) : chgN (l.drop i) ≤ chgN l := by
  unfold chgN
  conv => rhs; rw [← List.take_append_drop i l]
  rw [List.map_append, List.sum_append]
  omega
theorem tmod_nat (a b : Nat) : Int.tmod (a : Int) (b : Int) = ((a % b : Nat) : Int) := rfl
theorem playC_pre : ∀ {r : List IncD} {ms : List MapD}, (playC ms r).2 = 0 → ∀ i, i < ms.length → (playC ms r).1.getD i map0 = ms.getD i map0
  | [], ms, _, i, _ => rfl
  | x :: r, ms, h0, i, hi => by
    have e1 : playC ms (x :: r) = if (applyD (ms.getLastD map0) x).2 = 0 then playC (ms ++ [(applyD (ms.getLastD map0) x).1]) r else ([], (applyD (ms.getLastD map0) x).2) := rfl
    rw [e1] at h0 ⊢
    by_cases hm : (applyD (ms.getLastD map0) x).2 = 0
    · rw [if_pos hm] at h0 ⊢
      rw [playC_pre h0 i (by rw [List.length_append]; omega), List.getD_eq_getElem?_getD, List.getD_eq_getElem?_getD, List.getElem?_append_left hi]
    · rw [if_neg hm] at h0
      exact absurd h0 hm
theorem playD_zero {l : List IncD} (h : (playD l).2 = 0) : (playD l).1.getD 0 map0 = map0 := playC_pre (ms := [map0]) h 0 (by decide)
theorem encMap_ne (m : MapD) : encMap m ≠ [] := fun hh => by
  have := encMap_len m
  rw [hh] at this
  simp at this
  omega
theorem maps_m {H : AH} {c : CliD} {vi vc : AV} {l : List IncD} {cs : List (Nat × Nat)} (hl : IsSl RInc (fun k => k < H.n) H vi l) (hcs : IsSl RCut (fun k => k < H.n) H vc cs) (sl : Sm 32 l) (sc : Sm 16 cs)
    (hok : ∀ x ∈ l, OkInc x) (hN : chgN l ≤ 1048576) (hi : ∀ x ∈ l, ∀ c ∈ x.changes, c.bucket.items.length ≤ 1048576) :
    WC Tryz.prog (tabOf Tryz.prog NT0) S0 3 [.agg [.lit (.int .i64 c.k), .lit (.int .i64 c.i), .lit (.int .i64 c.boot), .lit (.int .i64 c.mons), .lit (.int .i64 c.tries)], vi, vc] H fun r h' => r = .lit (.bool true) := by
  refine WC_fn Tryz.func3 rfl rfl ?_
  have s1 := hl.isSl
  have d1 := hl.lenD
  have c1 := hl.one
  have s2 := hcs.isSl
  have d2 := hcs.lenD
  have c2 := hcs.one
  unfold Sm at sl sc
  obtain ⟨n, hn⟩ : ∃ n, n = l.length := ⟨_, rfl⟩
  obtain ⟨N, hNc⟩ : ∃ N, N = cs.length := ⟨_, rfl⟩
  rw [← hn] at d1
  rw [← hNc] at d2
  obtain ⟨hp, hhp⟩ : ∃ hp, hp = H.push (.cells [.lit (.int .i64 c.k), .lit (.int .i64 c.i), .lit (.int .i64 c.boot), .lit (.int .i64 c.mons), .lit (.int .i64 c.tries)] 25) := ⟨_, rfl⟩
  have EP : Ext H.n H hp := hhp ▸ (Ext.refl _ _).push _ (Nat.le_refl _)
  have P0 : hp.at H.n = some (.cells [.lit (.int .i64 c.k), .lit (.int .i64 c.i), .lit (.int .i64 c.boot), .lit (.int .i64 c.mons), .lit (.int .i64 c.tries)] 25) := hhp ▸ at_push_n _ _
  have LP := ld_at (T := tabOf Tryz.prog NT0) P0
  have lP := at_lt P0
  have nP : hp.n = H.n + 1 := by rw [hhp, n_push]
  simp only [core, zrA, zrS, zrM, zrL, zrE, reduceCtorEq, zrD, ziE, ziL, ziN, Tryz.ntmps3, c1, c2, ← hhp, LP, lP]
  have e22 : ((22 : Int) != 0) = true := rfl
  have e00 : ((0 : Int) != 0) = false := rfl
  have hpe : pur Tryz.prog (binOp .eql 28 (.pointer none) (.pointer none)) = some (.ok (.bool true)) := by kernel_rfl
  by_cases hno : c.boot < 1 ∨ c.tries < 1 ∨ c.mons < 1 ∨ 5 < c.mons
  · refine (New_x c hno).mono ?_
    rintro _ h1 ⟨e1, rfl⟩
    simp only [core, zrA, zrS, zrM, zrL, zrE, reduceCtorEq, zrD, ziE, ziL, ziN, e22, a_nilE, hpe]
    refine lives23_c ?_
    simp only [core, zrA, zrS, zrM, zrL, zrE, reduceCtorEq, zrD, ziE, ziL, ziN]
  have b1 : ¬ c.boot < 1 := fun h => hno (.inl h)
  have b2 : ¬ c.tries < 1 := fun h => hno (.inr (.inl h))
  have b3 : ¬ c.mons < 1 := fun h => hno (.inr (.inr (.inl h)))
  have b4 : ¬ 5 < c.mons := fun h => hno (.inr (.inr (.inr h)))
  have hb : 0 < c.boot := by omega
  refine (New_ok c b1 b2 b3 b4).mono ?_
  rintro _ h1 ⟨e1, q, rfl, hqn, hq⟩
  have f1 := e1.1
  have E1 := EP.trans (e1.mono EP.1)
  by_cases c40 : (40 : Int) < (n : Int)
  · simp only [core, zrA, zrS, zrM, zrL, zrE, reduceCtorEq, zrD, ziE, ziL, ziN, s1, d1, c40, e00]
    refine lives23_c ?_
    simp only [core, zrA, zrS, zrM, zrL, zrE, reduceCtorEq, zrD, ziE, ziL, ziN]
    try simp
  by_cases k40 : (40 : Int) < (N : Int)
  · simp only [core, zrA, zrS, zrM, zrL, zrE, reduceCtorEq, zrD, ziE, ziL, ziN, s1, d1, s2, d2, c40, k40, e00]
    refine lives23_c ?_
    simp only [core, zrA, zrS, zrM, zrL, zrE, reduceCtorEq, zrD, ziE, ziL, ziN]
    try simp
  have hsz : ∀ x ∈ l, Sm 88 x.changes ∧ ∀ c ∈ x.changes, Sm 8 c.bucket.items ∧ Sm 8 c.bucket.weights := fun x hx => ⟨(hok x hx).1, fun c hc => ((hok x hx).2 c hc).2⟩
  simp only [core, zrA, zrS, zrM, zrL, zrE, reduceCtorEq, zrD, ziE, ziL, ziN, s1, d1, s2, d2, c1, c40, k40, e00]
  refine (Play10_x l (hl.ext E1 (Nat.le_refl _)) (by omega) (by omega) hi hsz).mono ?_
  rintro _ h2 ⟨e2, rv, rfl, i2⟩
  have r2 := i2.one
  have E2 := E1.trans (e2.mono E1.1)
  have q2 := hq.ext e2
  by_cases hz : (playD l).2 = 0
  · have hze : ((playD l).2 != 0) = false := by rw [hz]; rfl
    have pok : PlOk (playD l).1 (chgN l) := by
      have := playC_ok plOk0 (r := l) hi hz
      rw [Nat.zero_add] at this
      exact this
    have hmade := playD_made hz
    obtain ⟨ms, hms⟩ : ∃ ms, ms = (playD l).1 := ⟨_, rfl⟩
    rw [← hms] at pok hmade i2
    have hml := hmade.1
    have hget : ∀ i, i ≤ n → ms[i]? = some (ms.getD i map0) := fun i hi => by
      rw [List.getD_eq_getElem?_getD, List.getElem?_eq_getElem (by omega)]
      rfl
    have hep : ∀ i, i < ms.length → (ms.getD i map0).epoch = (i : Int) := fun i hi => (pok.st i _ (hget i (by omega))).1
    have hst : ∀ i, i ≤ n → StOk (ms.getD i map0) (chgN l) := fun i hi => (pok.st i _ (hget i hi)).2
    have m1 := i2.isSl
    have m2 := i2.lenD
    simp only [core, zrA, zrS, zrM, zrL, zrE, reduceCtorEq, zrD, ziE, ziL, ziN, r2, hze, s2, d2]
    have P2 := ((e1.trans (e2.mono f1)).2 _ lP).trans P0
    have hlow : q < h2.n := q2.lt
    have hqh1 : q < h1.n := hq.lt
    refine WB_for N (fun i t h => ∃ b, b ≤ n ∧ Cl q h c (ms.getD b map0) ∧ Kq q h2 h ∧ t.n = 128 ∧ t.get 1 = vi ∧ t.get 2 = vc ∧ t.get 3 = .ptr H.n 0 ∧ t.get 7 = .ptr q 0 ∧ t.get 9 = rv ∧ t.get 61 = vc ∧ t.get 62 = .lit (.int .i64 N) ∧ t.get 63 = .lit (.int .i64 i)) ?_ ?_ _ _ ?_
    · rintro i t h hlt hc ⟨b, hbn, hcl, hkq, hn, g1, g2, g3, g7, g9, g61, g62, g63⟩ ih
      obtain ⟨x, hx⟩ : ∃ x, cs[i]? = some x := ⟨_, List.getElem?_eq_getElem (by omega)⟩
      have hwi := wrap_succ (n := N) hlt (by omega)
      have hcs' := hkq.sl (hcs.ext E2 (Nat.le_refl _)) (fun b hb => by omega)
      obtain ⟨cc, hc1, hld, hld0⟩ := hcs'.at (T := tabOf Tryz.prog NT0) RCut_z hx
      obtain ⟨rfl, x1, x2⟩ := RCut_is.1 hc1
      obtain ⟨f, hf⟩ : ∃ f, f = x.1 % (n + 1) := ⟨_, rfl⟩
      have hfn : f ≤ n := by rw [hf]; exact Nat.le_of_lt_succ (Nat.mod_lt _ (Nat.succ_pos n))
      obtain ⟨g, hg⟩ : ∃ g, g = x.2 % (n - f + 1) := ⟨_, rfl⟩
      have hgn0 : g ≤ n - f := by rw [hg]; exact Nat.le_of_lt_succ (Nat.mod_lt _ (Nat.succ_pos (n - f)))
      have hgn : f + g ≤ n := by omega
      have w1 : IntKind.i64.wrap ((n : Int) + 1) = ((n + 1 : Nat) : Int) := (wrap_in (by omega) (by omega)).trans (by omega)
      have w2 : IntKind.u64.wrap ((n + 1 : Nat) : Int) = ((n + 1 : Nat) : Int) := wrap_u64 (by omega) (by omega)
      have w3 : Int.tmod (x.1 : Int) ((n + 1 : Nat) : Int) = (f : Int) := by rw [tmod_nat, ← hf]
      have w4 : IntKind.i64.wrap (f : Int) = (f : Int) := wrap_in (by omega) (by omega)
      have w5 : IntKind.i64.wrap ((n : Int) - (f : Int)) = ((n - f : Nat) : Int) := (wrap_in (by omega) (by omega)).trans (by omega)
      have w6 : IntKind.i64.wrap (((n - f : Nat) : Int) + 1) = ((n - f + 1 : Nat) : Int) := (wrap_in (by omega) (by omega)).trans (by omega)
      have w7 : IntKind.u64.wrap ((n - f + 1 : Nat) : Int) = ((n - f + 1 : Nat) : Int) := wrap_u64 (by omega) (by omega)
      have w8 : Int.tmod (x.2 : Int) ((n - f + 1 : Nat) : Int) = (g : Int) := by rw [tmod_nat, ← hg]
      have w9 : IntKind.i64.wrap (g : Int) = (g : Int) := wrap_in (by omega) (by omega)
      have w10 : IntKind.i64.wrap ((f : Int) + (g : Int)) = ((f + g : Nat) : Int) := (wrap_in (by omega) (by omega)).trans (by omega)
      have z1 : (((n + 1 : Nat) : Int) = 0) = False := by simp; omega
      have z2 : (((n - f + 1 : Nat) : Int) = 0) = False := by simp; omega
      obtain ⟨hA, hhA⟩ : ∃ hA, hA = h.push (.cells [.lit (.int .u64 x.1), .lit (.int .u64 x.2)] 37) := ⟨_, rfl⟩
      have eA : Ext h.n h hA := hhA ▸ (Ext.refl _ _).push _ (Nat.le_refl _)
      have XA : hA.at h.n = some (.cells [.lit (.int .u64 x.1), .lit (.int .u64 x.2)] 37) := hhA ▸ at_push_n _ _
      have LXA := ld_at (T := tabOf Tryz.prog NT0) XA
      have lXA := at_lt XA
      simp only [core, zrA, zrS, zrM, zrL, zrE, reduceCtorEq, zrD, ziE, ziL, ziN, hn, g1, g2, g3, g7, g9, g61, g62, g63, hlt, hc, s2, d2, s1, d1, hld, hld0, ← hhA, LXA, lXA, w1, w2, w3, w4, w5, w6, w7, w8, w9, w10, z1, z2]
      have hclA := hcl.ext eA
      have hkA : Kq q h2 hA := hkq.trans (.ext eA)
      refine (Epoch_x hclA hb).mono ?_
      rintro _ _ ⟨rfl, q5⟩
      replace q5 := q5.symm
      subst q5
      have PA := (hkA.2 H.n (at_lt P2) (by omega)).trans P2
      have LPA := ld_at (T := tabOf Tryz.prog NT0) PA
      have lPA := at_lt PA
      have hbe := hep b (by omega)
      have hlA := hkA.sl (hl.ext E2 (Nat.le_refl _)) (fun b hb => by omega)
      have hsub := hlA.sub (l := f) (r := f + g) (by omega) (by omega)
      have hsub : IsSl RInc (fun b => b < H.n) hA (subSl 2 f (f + g) vi) ((l.take (f + g)).drop f) := hsub
      have b1' := hsub.one
      have v1 : ((0 : Int) ≤ (f : Int)) = True := by simp
      have v2 : ((f : Int) ≤ ((f + g : Nat) : Int)) = True := by simp; omega
      have v3 : (((f + g : Nat) : Int) ≤ (n : Int)) = True := by simp; omega
      have hcap : CapOk 2 vi := by obtain ⟨L, -, -, hc, -⟩ := hl.out; exact hc
      rw [hbe]
      simp only [core, zrA, zrS, zrM, zrL, zrE, reduceCtorEq, zrD, ziE, ziL, ziN, hn, g1, g2, g3, g7, g9, g61, g62, g63]
      rw [WB_regionD [0, 1, 2, 3, 4, 5, 6, 7, 8, 9] 632894559459272956638188797952 (by kernel_rfl)]
      repeat ((with_reducible refine WDM_cons ?_; simp only [dw1]; try simp only [dw2, zrA, zrM, zrR, zrO, zrE]); simp only [core, zrA, zrS, zrM, zrL, zrE, reduceCtorEq, zrD, ziE, ziL, ziN, cored, hn, g1, g2, g3, g7, g9, g61, g62, g63, s1, d1, LPA, v1, v2, v3, b1', slM, hcap])
      have hsubm : ∀ y ∈ (l.take (f + g)).drop f, y ∈ l := fun y hy => List.mem_of_mem_take (List.mem_of_mem_drop hy)
      have hcg : chgN ((l.take (f + g)).drop f) ≤ chgN l := Nat.le_trans (chgN_drop _ _) (chgN_take _ _)
      refine (Step_x (vi := subSl 2 f (f + g) vi) ((l.take (f + g)).drop f) (chgN l) hclA hb hsub (fun b hb => by omega) (by rw [List.length_drop, List.length_take]; omega) (fun y hy => hi y (hsubm y hy)) (fun y hy => hsz y (hsubm y hy)) (hst b hbn) (by rw [hbe]; unfold I64; omega) (by omega)).mono ?_
      rintro r3 h3 ⟨k3, cl3⟩
      obtain ⟨W, hWd⟩ : ∃ W, W = wantN f (f + g) b := ⟨_, rfl⟩
      have hWn : W ≤ n := by rw [hWd]; exact wantN_le hgn hbn
      have hsp : ((f : Int) ≤ (b : Int) ∧ ((b : Int) < ((f + g : Nat) : Int)) ∧ W = f + g) ∨ ((f : Int) ≤ (b : Int) ∧ (¬ ((b : Int) < ((f + g : Nat) : Int))) ∧ W = b) ∨ (¬ (f : Int) ≤ (b : Int) ∧ True ∧ W = b) := by
        rw [hWd]
        unfold wantN
        by_cases q1 : f ≤ b
        · by_cases q2 : b < f + g
          · rw [if_pos ⟨q1, q2⟩]
            exact .inl ⟨by omega, by omega, rfl⟩
          · rw [if_neg (fun hh => q2 hh.2)]
            exact .inr (.inl ⟨by omega, by omega, rfl⟩)
        · rw [if_neg (fun hh => q1 hh.1)]
          exact .inr (.inr ⟨by omega, trivial, rfl⟩)
      rw [List.drop_take, Nat.add_sub_cancel_left, stepD_want hmade hep (by omega) (by omega), ← hWd] at cl3
      clear hWd
      have hWm : W < ms.length := by omega
      have hWe := hep W hWm
      have hWs := hst W hWn
      have hWo := hWs.ok (by omega)
      have hk3 := hkA.trans k3
      have i3 := hk3.sl i2 (fun b hb => by omega)
      obtain ⟨cm, hcm, ld1, ld1'⟩ := i3.at (T := tabOf Tryz.prog NT0) RMp_z (hget W hWn)
      obtain ⟨wo, wp, wb, rfl, a1, a2, a3, -⟩ := RMp_is.1 hcm
      have y1 := a1.one
      have y2 := a2.one
      have y3 := a3.one
      have y4 := a1.isSl
      have y5 := a2.isSl
      have y6 := a3.isSl
      have hWW : (((W : Nat) : Int) != ((W : Nat) : Int)) = false := by simp
      have henc := enc_st hWs (by omega)
      have hne := encMap_ne (ms.getD W map0)
      rcases hsp with ⟨u1, u2, rfl⟩ | ⟨u1, u2, rfl⟩ | ⟨u1, u2, rfl⟩
      all_goals
        simp only [core, zrA, zrS, zrM, zrL, zrE, reduceCtorEq, zrD, ziE, ziL, ziN, hn, g1, g2, g3, g7, g9, g61, g62, g63, u1, u2]
        rw [WB_regionD [0, 2, 1, 3, 4, 5, 9, 10, 11, 12, 6, 7, 8, 13, 14, 15, 16] 497317544946243917365496988178680318598547069923405530724659399560260795343327421661184 (by kernel_rfl)]
        repeat ((with_reducible refine WDM_cons ?_; simp only [dw1]; try simp only [dw2, zrA, zrM, zrR, zrO, zrE]); simp only [core, zrA, zrS, zrM, zrL, zrE, reduceCtorEq, zrD, ziE, ziL, ziN, cored, hn, g1, g2, g3, g7, g9, g61, g62, g63])
        refine (Epoch_x cl3 hb).mono ?_
        rintro _ _ ⟨rfl, q5⟩
        replace q5 := q5.symm
        subst q5
        rw [hWe]
        repeat ((with_reducible refine WDM_cons ?_; simp only [dw1]; try simp only [dw2, zrA, zrM, zrR, zrO, zrE]); simp only [core, zrA, zrS, zrM, zrL, zrE, reduceCtorEq, zrD, ziE, ziL, ziN, cored, hn, g1, g2, g3, g7, g9, g61, g62, g63, hWW, m1, m2, hWm, ld1, ld1', y1, y2, y3])
        refine ⟨by simp only [same_sl, y4, y5, y6, Bool.and_self], ?_⟩
        refine (Map_x cl3 hb hWo (by have := hWs.nb; omega)).mono ?_
        rintro _ h4 ⟨e4, ro, rp, rb, rfl, m4⟩
        have lk4 := i3.loadExt (T := tabOf Tryz.prog NT0) (hget _ hWn) e4
        repeat ((with_reducible refine WDM_cons ?_; simp only [dw1]; try simp only [dw2, zrA, zrM, zrR, zrO, zrE]); simp only [core, zrA, zrS, zrM, zrL, zrE, reduceCtorEq, zrD, ziE, ziL, ziN, cored, hn, g1, g2, g3, g7, g9, g61, g62, g63, hWW, m1, m2, hWm, ld1, ld1', lk4, y1, y2, y3])
        refine ⟨by simp only [same_sl, y4, y5, y6, Bool.and_self], ?_⟩
        have mA : MpAt (fun k => k < h4.n) h4 _ ro rp rb := ⟨m4.o.lift fun _ _ hlt => ⟨rfl, hlt⟩, m4.p.lift fun _ _ hlt => ⟨rfl, hlt⟩, m4.b.lift fun _ _ hlt => ⟨rfl, hlt⟩⟩
        refine (map2_x _ mA (fun k hk => hk) hWo.1.1 hWo.2.1.1 hWo.2.2.1 hWo.2.2.2 henc).mono ?_
        rintro _ h5 ⟨e5, ob⟩
        obtain ⟨p5, rfl, hp5, hat5, hby5⟩ := OwnL.bytes ob hne
        have e45 := e4.trans (e5.mono e4.1)
        have lk5 := i3.loadExt (T := tabOf Tryz.prog NT0) (hget _ hWn) e45
        repeat ((with_reducible refine WDM_cons ?_; simp only [dw1]; try simp only [dw2, zrA, zrM, zrR, zrO, zrE]); simp only [core, zrA, zrS, zrM, zrL, zrE, reduceCtorEq, zrD, ziE, ziL, ziN, cored, hn, g1, g2, g3, g7, g9, g61, g62, g63, hWW, m1, m2, hWm, ld1, ld1', lk5, y1, y2, y3, a_conM, conM_sl, hby5])
        refine ⟨by simp only [same_sl, y4, y5, y6, Bool.and_self], ?_⟩
        have mB : MpAt (fun k => k < h5.n) h5 _ wo wp wb := ⟨(a1.ext e45 (Nat.le_refl _)).lift fun _ _ hlt => ⟨rfl, hlt⟩, (a2.ext e45 (Nat.le_refl _)).lift fun _ _ hlt => ⟨rfl, hlt⟩, (a3.ext e45 (Nat.le_refl _)).lift fun _ _ hlt => ⟨rfl, hlt⟩⟩
        refine (map2_x _ mB (fun k hk => hk) hWo.1.1 hWo.2.1.1 hWo.2.2.1 hWo.2.2.2 henc).mono ?_
        rintro _ h6 ⟨e6, ob6⟩
        obtain ⟨p6, rfl, hp6, hat6, hby6⟩ := OwnL.bytes ob6 hne
        have e46 := e45.trans (e6.mono e45.1)
        have lk6 := i3.loadExt (T := tabOf Tryz.prog NT0) (hget _ hWn) e46
        have hby56 := hby5
        unfold bytesAt getR at hby56
        rw [← e6.2 _ (at_lt hat5)] at hby56
        have hse : ∀ (P : Program) (t : TypeId) (bs : List UInt8), pur P (binOp .neq t (Value.string ⟨bs.toArray⟩) (Value.string ⟨bs.toArray⟩)) = some (.ok (Value.bool false)) := fun P t bs => by
          show pur P (pure (Value.bool !((⟨bs.toArray⟩ : ByteArray).toList == (⟨bs.toArray⟩ : ByteArray).toList))) = _
          rw [beq_self_eq_true]
          rfl
        repeat (first | ((with_reducible refine WDM_cons ?_; simp only [dw1]; try simp only [dw2, zrA, zrM, zrR, zrO, zrE]); simp only [core, zrA, zrS, zrM, zrL, zrE, reduceCtorEq, zrD, ziE, ziL, ziN, cored, hn, g1, g2, g3, g7, g9, g61, g62, g63, hWW, m1, m2, hWm, ld1, ld1', lk6, y1, y2, y3, a_conM, conM_sl, hby6, hse, hwi]) | simp only [core, zrA, zrS, zrM, zrL, zrE, reduceCtorEq, zrD, ziE, ziL, ziN, cored, hn, g1, g2, g3, g7, g9, g61, g62, g63, hWW, m1, m2, hWm, ld1, ld1', lk6, y1, y2, y3, a_conM, conM_sl, hby6, hse, hwi])
        have hby57 : bytesAt h6 p5 0 _ = some _ := hby56
        refine ⟨by rw [hby57]; exact same_str, ?_⟩
        try simp only [core, zrA, zrS, zrM, zrL, zrE, reduceCtorEq, zrD, ziE, ziL, ziN, hn, g1, g2, g3, g7, g9, g61, g62, g63, hwi]
        refine ih _ _ ⟨_, hWn, cl3.ext e46, hk3.trans (.ext e46), ?_⟩
        simp only [core, zrA, zrS, zrM, zrL, zrE, reduceCtorEq, zrD, ziE, ziL, ziN, hn, g1, g2, g3, g7, g9, g61, g62, g63]
    · rintro t h hc ⟨b, hbn, hcl, hkq, hn, g1, g2, g3, g7, g9, g61, g62, g63⟩
      simp only [core, zrA, zrS, zrM, zrL, zrE, reduceCtorEq, zrD, ziE, ziL, ziN, hn, g1, g2, g3, g7, g9, g61, g62, g63, hc]
      refine lives23_c ?_
      simp only [core, zrA, zrS, zrM, zrL, zrE, reduceCtorEq, zrD, ziE, ziL, ziN, hn, g1, g2, g3, g7, g9, g61, g62, g63]
      try simp
    · refine ⟨0, Nat.zero_le _, ?_, .refl _ _, ?_⟩
      · have : ms.getD 0 map0 = map0 := by
          rw [hms]
          exact playD_zero hz
        rw [this]
        exact q2
      · simp only [core, zrA, zrS, zrM, zrL, zrE, reduceCtorEq, zrD, ziE, ziL, ziN]
        (repeat' apply And.intro) <;> first | rfl | trivial
  · have hze : ((playD l).2 != 0) = true := bne_iff_ne.2 hz
    simp only [core, zrA, zrS, zrM, zrL, zrE, reduceCtorEq, zrD, ziE, ziL, ziN, r2, hze]
    refine lives23_c ?_
    simp only [core, zrA, zrS, zrM, zrL, zrE, reduceCtorEq, zrD, ziE, ziL, ziN]
    try simp
end Go.Proofs.YtfbpjobjdmmgiaaGreat.Ex
end

section

set_option linter.unusedSimpArgs false
set_option linter.unusedVariables false
namespace Go.Proofs.YtfbpjobjdmmgiaaGreat.Ex
open Go Go.RowKit Go.ChangeShapes Go.WideShapes Go.ChangeAt
section
variable {H : Type} {enc : TypeId × Value → H} {W : World}
theorem OpensM.one {P : Program} {t : TypeId} {α : Type} {R : Rep α} {B : α → Prop} {μ : α → Nat} (h : OpensM enc P W t R B μ) : OpensM enc P W t R B (fun _ => 1) := by
  refine ⟨h.1, fun fuel cs x hf hw => ?_⟩
  obtain ⟨a, b, y, c, d, e⟩ := h.2 fuel cs x hf hw
  exact ⟨a, b, y, c, d, bulk_pos _⟩
theorem sum_one {α : Type} : ∀ l : List α, (l.map fun _ => 1).sum = l.length
  | [] => rfl
  | a :: r => by rw [List.map_cons, List.sum_cons, sum_one r, List.length_cons]; omega
def bkM (b : BktD) : Nat := b.items.length + b.weights.length
theorem opensM_ints : OpensM enc Tryz.prog W 107 (RSl RInt) (fun ys => ys.length * 8 ≤ 140737488351232 ∧ ∀ y ∈ ys, True) (fun ys => ys.length) :=
  (opensM_list (R := RInt) (B := fun _ => True) Tryz.underlying107 (by kernel_rfl) (by kernel_rfl) (by decide) (opensM_int Tryz.underlying3 (by kernel_rfl))).to (fun _ h => h) fun ys => by rw [sum_one]; omega
theorem opensM_Bkt : OpensM enc Tryz.prog W 109 RBkt OkBkt bkM :=
  opensM_struct (ts := [3, 3, 107, 107]) (fun x : BktD => (x.id, x.kind, x.items, x.weights)) (fun y => ⟨y.1, y.2.1, y.2.2.1, y.2.2.2⟩) (fun y => rfl) Tryz.underlying109 (by rfl) (by kernel_rfl) (by kernel_rfl) (opensN_cons (opensA_int Tryz.underlying3 (by kernel_rfl)) (opensN_cons (opensA_int Tryz.underlying3 (by kernel_rfl)) (opensN_cons opensM_ints (opensN_one opensM_ints)))) (fun y ⟨_, _, ⟨h2, _⟩, ⟨h3, _⟩⟩ => ⟨h2, h3⟩)
    (fun y => by unfold bkM; dsimp only; omega)
end
/-! Weights. -/
section
variable {H : Type} {P : Program} {K : Nat}
/-- Are a type's parts types of the table, and none of more than K bytes? -/
def okBy (P : Program) (K : Nat) : Option TypeDesc → Bool
  | some (.pointer e) => decide (e < P.types.size)
  | some (.slice e) => decide (e < P.types.size) && decide (P.bytesOf e ≤ K)
  | some (.struct fs) => (fs.toList.map (·.type)).all (fun e => decide (e < P.types.size))
  | some (.array _ e) => decide (e < P.types.size)
  | some (.map k e) => decide (e < P.types.size) && (decide (P.bytesOf k ≤ K) && decide (P.bytesOf e ≤ K))
  | _ => true
theorem len_bulk : ∀ l : List (DataW H), l.length ≤ Rows.uptoBulkAll l
  | [] => Nat.zero_le _
  | d :: r => by
    have h1 := len_bulk r
    have h2 := bulk_pos d
    simp only [List.length_cons, Rows.uptoBulkAll]
    omega
theorem entry_pos : ∀ x : Lit × DataW H, 1 ≤ Rows.uptoBulkEntry x := by
  rintro ⟨a, d⟩
  unfold Rows.uptoBulkEntry
  split <;> omega
theorem len_bulkE : ∀ l : List (Lit × DataW H), l.length ≤ Rows.uptoBulkEntries l
  | [] => Nat.zero_le _
  | d :: r => by
    have h1 := len_bulkE r
    have h2 := entry_pos d
    simp only [List.length_cons, Rows.uptoBulkEntries]
    omega
theorem mul_up {n a b c : Nat} (h : n ≤ a * c) (hab : a ≤ b) : n ≤ b * c := Nat.le_trans h (Nat.mul_le_mul_right c hab)
mutual
theorem weights_bulk (hK : ∀ e, e < P.types.size → okBy P K (P.underlying e) = true) : ∀ (d : DataW H) (t : TypeId) (n : Nat), t < P.types.size → n ∈ d.weights P t → n ≤ Rows.uptoBulk d * (2 * K + 1)
  | .lit l, t, n, ht, h => by
    cases l with
    | string bytes =>
      simp only [DataW.weights, List.mem_singleton] at h
      subst h
      simp only [Rows.uptoBulk]
      exact Nat.le_trans (Nat.le_succ _) (Nat.le_mul_of_pos_right _ (by omega))
    | _ => simp [DataW.weights] at h
  | .nil, t, n, ht, h => by simp [DataW.weights] at h
  | .ptr d, t, n, ht, h => by
    have hk := hK t ht
    simp only [DataW.weights] at h
    split at h
    · rename_i e hu
      rw [hu] at hk
      simp only [okBy, decide_eq_true_eq] at hk
      simp only [Rows.uptoBulk]
      exact mul_up (weights_bulk hK d _ n hk h) (Nat.le_succ _)
    · simp at h
  | .slice elems spare, t, n, ht, h => by
    have hk := hK t ht
    simp only [DataW.weights] at h
    split at h
    · rename_i e hu
      rw [hu] at hk
      simp only [okBy, Bool.and_eq_true, decide_eq_true_eq] at hk
      simp only [Rows.uptoBulk]
      rcases List.mem_cons.1 h with rfl | h
      · have h1 := len_bulk elems
        have h2 := len_bulk spare
        exact Nat.mul_le_mul (by omega) (by have := hk.2; omega)
      · rcases List.mem_append.1 h with h | h
        · exact mul_up (weightsAll_bulk hK elems _ n hk.1 h) (by omega)
        · exact mul_up (weightsAll_bulk hK spare _ n hk.1 h) (by omega)
    · simp at h
  | .agg parts, t, n, ht, h => by
    have hk := hK t ht
    simp only [DataW.weights] at h
    simp only [Rows.uptoBulk]
    split at h
    · rename_i fs hu
      rw [hu] at hk
      exact mul_up (weightsEach_bulk hK parts _ n (fun e he => of_decide_eq_true (List.all_eq_true.1 hk e he)) h) (Nat.le_succ _)
    · rename_i e hu
      rw [hu] at hk
      simp only [okBy, decide_eq_true_eq] at hk
      exact mul_up (weightsAll_bulk hK parts _ n hk h) (Nat.le_succ _)
    · simp at h
  | .iface _ _, t, n, ht, h => by simp [DataW.weights] at h
  | .map entries, t, n, ht, h => by
    have hk := hK t ht
    simp only [DataW.weights] at h
    split at h
    · rename_i k e hu
      rw [hu] at hk
      simp only [okBy, Bool.and_eq_true, decide_eq_true_eq] at hk
      simp only [Rows.uptoBulk]
      rcases List.mem_cons.1 h with rfl | h
      · have h1 := len_bulkE entries
        exact Nat.mul_le_mul (by omega) (by have := hk.2.1; have := hk.2.2; omega)
      · exact mul_up (weightsEntries_bulk hK entries _ n hk.1 h) (Nat.le_succ _)
    · simp at h
  | .held _, t, n, ht, h => by simp [DataW.weights] at h
theorem weightsAll_bulk (hK : ∀ e, e < P.types.size → okBy P K (P.underlying e) = true) : ∀ (l : List (DataW H)) (e : TypeId) (n : Nat), e < P.types.size → n ∈ DataW.weightsAll P e l → n ≤ Rows.uptoBulkAll l * (2 * K + 1)
  | [], e, n, _, h => by simp [DataW.weightsAll] at h
  | d :: r, e, n, he, h => by
    simp only [DataW.weightsAll, List.mem_append] at h
    simp only [Rows.uptoBulkAll]
    rcases h with h | h
    · exact mul_up (weights_bulk hK d e n he h) (by omega)
    · exact mul_up (weightsAll_bulk hK r e n he h) (by omega)
theorem weightsEach_bulk (hK : ∀ e, e < P.types.size → okBy P K (P.underlying e) = true) : ∀ (l : List (DataW H)) (ts : List TypeId) (n : Nat), (∀ e ∈ ts, e < P.types.size) → n ∈ DataW.weightsEach P ts l → n ≤ Rows.uptoBulkAll l * (2 * K + 1)
  | [], ts, n, _, h => by cases ts <;> simp [DataW.weightsEach] at h
  | d :: r, [], n, _, h => by simp [DataW.weightsEach] at h
  | d :: r, t :: ts, n, he, h => by
    simp only [DataW.weightsEach, List.mem_append] at h
    simp only [Rows.uptoBulkAll]
    rcases h with h | h
    · exact mul_up (weights_bulk hK d t n (he t (by simp)) h) (by omega)
    · exact mul_up (weightsEach_bulk hK r ts n (fun e hm => he e (by simp [hm])) h) (by omega)
theorem weightsEntries_bulk (hK : ∀ e, e < P.types.size → okBy P K (P.underlying e) = true) : ∀ (l : List (Lit × DataW H)) (e : TypeId) (n : Nat), e < P.types.size → n ∈ DataW.weightsEntries P e l → n ≤ Rows.uptoBulkEntries l * (2 * K + 1)
  | [], e, n, _, h => by simp [DataW.weightsEntries] at h
  | x :: r, e, n, he, h => by
    simp only [DataW.weightsEntries, List.mem_append] at h
    simp only [Rows.uptoBulkEntries]
    rcases h with h | h
    · exact mul_up (weightsEntry_bulk hK x e n he h) (by omega)
    · exact mul_up (weightsEntries_bulk hK r e n he h) (by omega)
theorem weightsEntry_bulk (hK : ∀ e, e < P.types.size → okBy P K (P.underlying e) = true) : ∀ (x : Lit × DataW H) (e : TypeId) (n : Nat), e < P.types.size → n ∈ DataW.weightsEntry P e x → n ≤ Rows.uptoBulkEntry x * (2 * K + 1)
  | (a, d), e, n, he, h => by
    have hd := fun h => weights_bulk hK d e n he h
    cases a with
    | string bytes =>
      simp only [DataW.weightsEntry, List.mem_cons] at h
      simp only [Rows.uptoBulkEntry]
      rcases h with rfl | h
      · exact Nat.le_trans (by omega) (Nat.le_mul_of_pos_right _ (by omega))
      · exact mul_up (hd h) (by omega)
    | _ =>
      simp only [DataW.weightsEntry] at h
      simp only [Rows.uptoBulkEntry]
      exact mul_up (hd h) (Nat.le_succ _)
end
end
set_option maxRecDepth 100000 in
theorem okBy_all : ∀ e, e < Tryz.prog.types.size → okBy Tryz.prog 4096 (Tryz.prog.underlying e) = true := by
  intro e he
  have h : (List.range Tryz.prog.types.size).all (fun e => okBy Tryz.prog 4096 (Tryz.prog.underlying e)) = true := by decide +kernel
  exact List.all_eq_true.1 h e (List.mem_range.2 he)
/-- All weights of what is of bulk at most 1048576. -/
theorem bulk_weights {H : Type} {d : DataW H} {t : TypeId} (ht : t < Tryz.prog.types.size) (h : Rows.uptoBulk d ≤ 1048576) : ∀ n ∈ d.weights Tryz.prog t, n ≤ reachBytes := fun n hn =>
  Nat.le_trans (weights_bulk okBy_all d t n ht hn) (Nat.le_trans (Nat.mul_le_mul_right _ h) (by decide))
end Go.Proofs.YtfbpjobjdmmgiaaGreat.Ex
end

section

set_option linter.unusedSimpArgs false
set_option linter.unusedVariables false
namespace Go.Proofs.YtfbpjobjdmmgiaaGreat.Ex
open Go Go.RowKit Go.ChangeShapes Go.WideShapes Go.ChangeAt
def RNode : Rep (Int × Int) := RMap (fun x => (x.1, x.2)) (RPair RInt RInt)
def RStart : Rep CliD := RMap (fun c => ((c.k, c.i), c.boot, c.mons, c.tries)) (RPair RNode (RPair RInt (RPair RInt RInt)))
theorem RStart_is {F : Nat → Prop} {h : AH} {c : List AV} {x : CliD} (hc : RStart.is F h c x) : c = [.lit (.int .i64 x.k), .lit (.int .i64 x.i), .lit (.int .i64 x.boot), .lit (.int .i64 x.mons), .lit (.int .i64 x.tries)] := by
  obtain ⟨_, _, rfl, ⟨_, _, rfl, ⟨rfl, -⟩, rfl, -⟩, _, _, rfl, ⟨rfl, -⟩, _, _, rfl, ⟨rfl, -⟩, rfl, -⟩ := hc
  rfl
def chM (c : ChD) : Nat := bkM c.bucket + 1
def incM (x : IncD) : Nat := (x.changes.map chM).sum
section
variable {H : Type} {enc : TypeId × Value → H} {W : World}
theorem opensM_Ch : OpensM enc Tryz.prog W 111 RCh OkCh chM :=
  opensM_struct (ts := [3, 3, 3, 102, 109]) (fun x : ChD => (x.kind, x.osd, x.value, x.pool, x.bucket)) (fun y => ⟨y.1, y.2.1, y.2.2.1, y.2.2.2.1, y.2.2.2.2⟩) (fun y => rfl) Tryz.underlying111 (by rfl) (by kernel_rfl) (by kernel_rfl) (opensN_cons (opensA_int Tryz.underlying3 (by kernel_rfl)) (opensN_cons (opensA_int Tryz.underlying3 (by kernel_rfl)) (opensN_cons (opensA_int Tryz.underlying3 (by kernel_rfl)) (opensN_cons opensA_Pool (opensN_one opensM_Bkt))))) (fun y ⟨_, _, _, h1, h2⟩ => ⟨h1, h2⟩)
    (fun y => by unfold chM; dsimp only; omega)
theorem opensM_Chs : OpensM enc Tryz.prog W 44 (RSl RCh) (fun ys => Sm 120 ys ∧ ∀ y ∈ ys, OkCh y) (fun ys => (ys.map chM).sum) :=
  opensM_list Tryz.underlying44 (by kernel_rfl) (by kernel_rfl) (by decide) opensM_Ch
theorem opensM_Inc : OpensM enc Tryz.prog W 90 RInc OkInc incM :=
  opensM_struct (ts := [3, 44]) (fun x : IncD => (x.epoch, x.changes)) (fun y => ⟨y.1, y.2⟩) (fun y => rfl) Tryz.underlying90 (by rfl) (by kernel_rfl) (by kernel_rfl) (opensN_cons (opensA_int Tryz.underlying3 (by kernel_rfl)) (opensN_one opensM_Chs)) (fun y ⟨_, h1⟩ => ⟨by have h2 := h1.1; unfold Sm at h2 ⊢; show y.2.length * 88 ≤ _; omega, h1.2⟩)
    (fun y => by unfold incM; dsimp only; omega)
theorem opensM_Incs : OpensM enc Tryz.prog W 26 (RSl RInc) (fun ys => Sm 32 ys ∧ ∀ y ∈ ys, OkInc y) (fun ys => (ys.map incM).sum) :=
  opensM_list Tryz.underlying26 (by kernel_rfl) (by kernel_rfl) (by decide) opensM_Inc
theorem opensA_Node : OpensA enc Tryz.prog W 23 RNode (fun _ => True) :=
  opensA_struct (ts := [3, 3]) (fun x : Int × Int => (x.1, x.2)) (fun y => (y.1, y.2)) (fun y => rfl) Tryz.underlying23 (by rfl) (by kernel_rfl) (by kernel_rfl) (opensL_cons (opensA_int Tryz.underlying3 (by kernel_rfl)) (opensL_one (opensA_int Tryz.underlying3 (by kernel_rfl)))) (fun _ _ => trivial)
set_option maxRecDepth 10000 in
theorem opensA_Start : OpensA enc Tryz.prog W 25 RStart (fun _ => True) :=
  opensA_struct (ts := [23, 3, 3, 3]) (fun c : CliD => ((c.k, c.i), c.boot, c.mons, c.tries)) (fun y => ⟨y.1.1, y.1.2, y.2.1, y.2.2.1, y.2.2.2⟩) (fun y => rfl) Tryz.underlying25 (by rfl) (by kernel_rfl) (by kernel_rfl) (opensL_cons opensA_Node (opensL_cons (opensA_int Tryz.underlying3 (by kernel_rfl)) (opensL_cons (opensA_int Tryz.underlying3 (by kernel_rfl)) (opensL_one (opensA_int Tryz.underlying3 (by kernel_rfl)))))) (fun _ _ => trivial)
theorem u64_wf {n : Int} (hw : (Lit.int .u64 n).wf = true) : 0 ≤ n ∧ n < 18446744073709551616 := by
  simp only [Lit.wf, IntKind.min, IntKind.max, IntKind.signed, IntKind.bits] at hw
  simp at hw
  exact ⟨hw.1, by omega⟩
set_option maxRecDepth 10000 in
theorem opensA_Cut : OpensA enc Tryz.prog W 37 RCut (fun _ => True) := by
  have hci : Tryz.prog.cellsOf 36 = 1 := by kernel_rfl
  refine ⟨by kernel_rfl, fun fuel cs x hf _ => ?_⟩
  obtain ⟨xs, m, rfl, rfl, hcs, hxs, hel⟩ := DataW.trod_array Tryz.underlying37 hf
  have hc2 : Tryz.prog.cellsOf 37 = 2 := by kernel_rfl
  rw [hc2] at hcs
  match cs, hcs with
  | [c0, c1], _ =>
    have h0 := hel 0 (by decide)
    have h1 := hel 1 (by decide)
    rw [hci] at h0 h1
    have e0 : xs[0]? = some xs[0] := List.getElem?_eq_getElem (by omega)
    have e1 : xs[1]? = some xs[1] := List.getElem?_eq_getElem (by omega)
    rw [e0] at h0
    rw [e1] at h1
    obtain ⟨a, q0, -, w0⟩ := DataW.trod_int Tryz.underlying36 h0
    obtain ⟨b, q1, -, w1⟩ := DataW.trod_int Tryz.underlying36 h1
    have q0 : [c0] = [.int .u64 a] := q0
    have q1 : [c1] = [.int .u64 b] := q1
    cases q0
    cases q1
    obtain ⟨wa, wa'⟩ := u64_wf w0
    obtain ⟨wb, wb'⟩ := u64_wf w1
    obtain ⟨a, rfl⟩ := Int.eq_ofNat_of_zero_le wa
    obtain ⟨b, rfl⟩ := Int.eq_ofNat_of_zero_le wb
    refine ⟨rfl, ?_, (a, b), RCut_is.2 ⟨rfl, by omega, by omega⟩, trivial, Nat.zero_le _⟩
    intro c hc
    simp only [List.mem_cons, List.not_mem_nil, or_false] at hc
    rcases hc with rfl | rfl <;> rfl
theorem opensA_Cuts : OpensA enc Tryz.prog W 27 (RSl RCut) (fun ys => Sm 16 ys ∧ ∀ y ∈ ys, True) :=
  opensA_list Tryz.underlying27 (by kernel_rfl) (by kernel_rfl) (by decide) opensA_Cut
theorem open_slM {P : Program} {base : Nat} {t e : TypeId} {v0 : Value} {d0 : DataW H} {p0 : List MemPlace} {α : Type} {R : Rep α} {B : List α → Prop} {μ : List α → Nat} (hO : OpensM enc P W t (RSl R) B μ) (hu : P.underlying t = some (.slice e))
    (k0 : Value.okWide P W .any base t v0) (h0 : DataW.Trod enc P W 0 (fun _ => true) true t v0 d0 p0) (hw : ∀ n ∈ d0.weights P t, n ≤ reachBytes) :
    ∃ (v : AV) (ys : List α), rel (fun _ => default) (mu0 W) W v v0 ∧ IsSl R (InH W) (absH W) v ys ∧ B ys ∧ μ ys ≤ Rows.uptoBulk d0 := by
  obtain ⟨a, len, cap, rfl⟩ := okWide_slice hu k0
  obtain ⟨fuel, hf⟩ := h0
  obtain ⟨h3, h4, y, h5, h6⟩ := hO.2 fuel [Value.slice a len cap] _ hf (List.all_eq_true.2 fun n hn => (by simpa using hw n hn))
  obtain ⟨v', e', h5⟩ := RSl_is.1 h5
  cases e'
  exact ⟨_, y, absV_rel (h4 _ (by simp)), h5, h6.1, h6.2⟩
end
theorem sum_mem {α : Type} {f : α → Nat} : ∀ {l : List α} {x : α}, x ∈ l → f x ≤ (l.map f).sum
  | y :: r, x, hx => by
    rw [List.map_cons, List.sum_cons]
    rcases List.mem_cons.1 hx with rfl | hx
    · omega
    · have := sum_mem (f := f) hx
      omega
theorem sum_le {α : Type} {f g : α → Nat} : ∀ {l : List α}, (∀ x ∈ l, f x ≤ g x) → (l.map f).sum ≤ (l.map g).sum
  | [], _ => Nat.le_refl _
  | y :: r, h => by
    have h1 := h y (by simp)
    have h2 := sum_le (l := r) fun x hx => h x (by simp [hx])
    rw [List.map_cons, List.map_cons, List.sum_cons, List.sum_cons]
    omega
theorem len_chM : ∀ l : List ChD, l.length ≤ (l.map chM).sum
  | [] => Nat.le_refl _
  | c :: r => by
    have := len_chM r
    rw [List.map_cons, List.sum_cons, List.length_cons]
    unfold chM at this ⊢
    omega
theorem incs_chgN (l : List IncD) : chgN l ≤ (l.map incM).sum := sum_le fun x _ => len_chM x.changes
theorem incs_items {l : List IncD} {x : IncD} {c : ChD} (hx : x ∈ l) (hc : c ∈ x.changes) : c.bucket.items.length ≤ (l.map incM).sum := by
  have h1 := sum_mem (f := incM) hx
  have h2 := sum_mem (f := chM) hc
  unfold incM at h1
  unfold chM bkM at h2
  unfold incM
  unfold chM bkM at h1
  unfold chM bkM
  omega
end Go.Proofs.YtfbpjobjdmmgiaaGreat.Ex
namespace Go.Proofs.YtfbpjobjdmmgiaaGreat
open Go.RowKit Go.ChangeShapes Go.WideShapes Go.ChangeAt
set_option maxRecDepth 100000 in
theorem clientMaps_walk {H : Type} {enc : TypeId × Value → H} {W : World} {base : Nat} {v0 v1 v2 : Value} {d0 d1 d2 : DataW H} {p0 p1 p2 : List MemPlace}
    (k0 : Value.okWide Tryz.prog W .any base 25 v0) (h0 : DataW.Trod enc Tryz.prog W 0 (fun _ => true) true 25 v0 d0 p0)
    (k1 : Value.okWide Tryz.prog W .any base 26 v1) (h1 : DataW.Trod enc Tryz.prog W 0 (fun _ => true) true 26 v1 d1 p1)
    (k2 : Value.okWide Tryz.prog W .any base 27 v2) (h2 : DataW.Trod enc Tryz.prog W 0 (fun _ => true) true 27 v2 d2 p2)
    (hb : Rows.uptoBulkAll [d0, d1, d2] ≤ 1048576) :
    Calls Tryz.prog 3 #[v0, v1, v2] W fun e w' => e = .returned (.bool true) ∧ Below W.heap.size W w' := by
  simp only [Rows.uptoBulkAll] at hb
  obtain ⟨c0, c, r0, i0, -⟩ := Ex.open_agg Ex.opensA_Start Tryz.underlying25 rfl k0 h0 (Ex.bulk_weights (by decide) (by omega))
  obtain ⟨v, l, r1, i1, ok1, m1⟩ := Ex.open_slM Ex.opensM_Incs Tryz.underlying26 k1 h1 (Ex.bulk_weights (by decide) (by omega))
  obtain ⟨u, cs, r2, i2, ok2⟩ := Ex.open_sl Ex.opensA_Cuts Tryz.underlying27 k2 h2 (Ex.bulk_weights (by decide) (by omega))
  obtain rfl := Ex.RStart_is i0
  exact Ex.law_join (Ex.rels_cons r0 (Ex.rels_cons r1 (Ex.rels_cons r2 Ex.rels_nil))) (Ex.maps_m i1 i2 ok1.1 ok2.1 ok1.2 (Nat.le_trans (Ex.incs_chgN l) (by omega)) (fun x hx d hd => Nat.le_trans (Ex.incs_items hx hd) (by omega)))
end Go.Proofs.YtfbpjobjdmmgiaaGreat
end
