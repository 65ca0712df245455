/- Part 6 of the proof: Mrw, Mrx, Mse, Mry, Mrz, Abs, Open, Opa, Opb, Jn, Moq. -/
import Derived.Test.YtdcmfchodooolaaGreatDoorRows
import Derived.ProofKit
import Derived.OpenShut
import Derived.ShutString
import Derived.ChangeOld
import Derived.SizedLaws
import Derived.ChangeMaps5
import Derived.Test.YtdcmfchodooolaaGreatDoorM5
open Nat renaming reduceAdd → zrA, reduceSub → zrS, reduceMul → zrM, reduceLT → zrL, reduceEqDiff → zrE, reduceLeDiff → zrD, reduceShiftRight → zrR, reduceMod → zrO
open Int renaming reduceLE → ziE, reduceLT → ziL, reduceToNat → ziN
section

set_option linter.unusedSimpArgs false
set_option linter.unusedVariables false
set_option maxRecDepth 10000
set_option maxHeartbeats 4000000
namespace Go.Proofs.YtdcmfchodooolaaGreatDoor.Ex
open Go
theorem strsL_map : ∀ xs : List ByteArray, strsL (xs.map fun z => AV.lit (.string z)) = some xs
  | [] => rfl
  | x :: xs => by
    show (strsL (xs.map fun z => AV.lit (.string z))).map (x :: ·) = _
    rw [strsL_map xs]
    rfl
theorem flat_tx (xs : List (List UInt8)) : xs.flatMap txC = (xs.map fun x => (⟨x.toArray⟩ : ByteArray)).map fun z => AV.lit (.string z) := by
  induction xs with
  | nil => rfl
  | cons x xs ih => rw [List.flatMap_cons, ih]; rfl
theorem sortT_c {H : AH} {p : Nat} {xs : List (List UInt8)} {c : Cap} {Q : AV → AH → Prop} (hat : H.at p = some (.cells (xs.flatMap txC) 9)) (h0 : 0 < xs.length) (hl : xs.length ≤ 1000000) (hq : Q (.tup []) (H.put p (.cells ((srtT xs).flatMap txC) 9))) :
    WC Tryz.prog (tabOf Tryz.prog NT0) S0 26 [.sl p 0 xs.length c] H Q := by
  refine WC_sum Tryz.func26 rfl (g := sSortT) rfl ?_ hq
  have hi := strsL_map (xs.map fun x => (⟨x.toArray⟩ : ByteArray))
  rw [← flat_tx] at hi
  have h1 : (Nat.blt 0 xs.length && (Nat.beq xs.length (xs.map fun x => (⟨x.toArray⟩ : ByteArray)).length && Nat.ble (xs.map fun x => (⟨x.toArray⟩ : ByteArray)).length 1000000)) = true := by
    rw [List.length_map, Nat.beq_refl, Nat.ble_eq_true_of_le hl]
    simpa using h0
  have h2 : (xs.map fun x => (⟨x.toArray⟩ : ByteArray)).map (·.data.toList) = xs := by
    rw [List.map_map]
    exact List.map_id'' (fun _ => rfl) xs
  have h3 : (srtT xs).flatMap txC = (srtT xs).map fun x => AV.lit (.string ⟨x.toArray⟩) := by rw [flat_tx, List.map_map]; rfl
  unfold sSortT
  simp only [hat, hi, h1, h2, cond_true, h3]
theorem sortF_c {H : AH} {p : Nat} {xs : List SetD} {c : Cap} {Q : AV → AH → Prop} (hat : H.at p = some (.cells (xs.flatMap setC) 28)) (h0 : 0 < xs.length) (hl : xs.length ≤ 1000000) (hn : (xs.map (·.name)).Nodup) (hq : Q (.tup []) (H.put p (.cells ((srtS xs).flatMap setC) 28))) :
    WC Tryz.prog (tabOf Tryz.prog NT0) S0 31 [.sl p 0 xs.length c, .fn (.func 32) [] []] H Q := by
  refine WC_sum Tryz.func31 rfl (g := sSortF) rfl ?_ hq
  have h1 : (Nat.beq 32 32 && (Nat.blt 0 xs.length && (Nat.ble xs.length 1000000 && decide ((xs.map (·.name)).Nodup)))) = true := by
    rw [Nat.beq_refl, Nat.ble_eq_true_of_le hl, decide_eq_true hn]
    simpa using h0
  unfold sSortF
  simp only [hat, setsL_flat, h1, cond_true]
theorem Open_x {F : Nat → Prop} {H : AH} {vl vo : AV} {r : RootD} {id : List UInt8} (hl : IsSl RSet F H vl r.live) (ho : IsSl RTx F H vo r.ops) (hr : RLen r) (hid : id.length ≤ 1100000) :
    WC Tryz.prog (tabOf Tryz.prog NT0) S0 5 [.agg [vl, vo], .lit (.string ⟨id.toArray⟩)] H fun v h' => Ext H.n H h' ∧ ∃ u, v = .tup [u, .lit (.int .i64 (openF r id).2)] ∧ OwnQ 28 H.n h' u (openF r id).1 := by
  refine WC_fn Tryz.func5 rfl rfl ?_
  have l1 := hl.one
  have l2 := hl.isSl
  have l3 := hl.lenD
  have o1 := ho.one
  have o2 := ho.isSl
  have o3 := ho.lenD
  obtain ⟨n, hN⟩ : ∃ n, n = r.ops.length := ⟨_, rfl⟩
  rw [← hN] at o3
  obtain ⟨hp, hhp⟩ : ∃ hp, hp = H.push (.cells [vl, vo] 25) := ⟨_, rfl⟩
  have EP : Ext H.n H hp := hhp ▸ (Ext.refl _ _).push _ (Nat.le_refl _)
  have nP : hp.n = H.n + 1 := by rw [hhp, n_push]
  have P0 : hp.at H.n = some (.cells [vl, vo] 25) := hhp ▸ at_push_n _ _
  obtain ⟨hs, hhs⟩ : ∃ hs, hs = hp.push (.cells [.lit (.slice none 0 0), .lit (.slice none 0 0)] 25) := ⟨_, rfl⟩
  have ES : Ext hp.n hp hs := hhs ▸ (Ext.refl _ _).push _ (Nat.le_refl _)
  have nS : hs.n = H.n + 2 := by rw [hhs, n_push, nP]
  have S0 : hs.at hp.n = some (.cells [.lit (.slice none 0 0), .lit (.slice none 0 0)] 25) := hhs ▸ at_push_n _ _
  have P1 := (ES.2 _ (at_lt P0)).trans P0
  have E0 := EP.trans (ES.mono EP.1)
  have LP := ld_at (T := tabOf Tryz.prog NT0) P1
  have lP := at_lt P1
  have bad : ∀ h4 : AH, Ext H.n H h4 → h4.at hp.n = some (.cells [.lit (.slice none 0 0), .lit (.slice none 0 0)] 25) →
      ∃ h5, h5 = h4.put hp.n (.cells [.lit (.slice none 0 0), .lit (.slice none 0 0)] 25) ∧ Ext H.n H h5 ∧ (∀ e i, loadA (tabOf Tryz.prog NT0) h5 e hp.n i = ldL (tabOf Tryz.prog NT0) e [.lit (.slice none 0 0), .lit (.slice none 0 0)] i) ∧ hp.n < h5.n := fun h4 e4 a4 =>
    ⟨_, rfl, e4.put _ (by omega), ld_at (at_put_same _ (at_lt a4)), by rw [n_put]; exact at_lt a4⟩
  simp only [core, zrA, zrS, zrM, zrL, zrE, reduceCtorEq, zrD, ziE, ziL, ziN, Tryz.ntmps5, l1, l2, l3, o1, o2, o3, ← hhp, ← hhs, LP, lP]
  refine (CheckRoot_x (hl.ext E0 (Nat.le_refl _)) (ho.ext E0 (Nat.le_refl _)) hr.o hr.s).mono ?_
  rintro _ h2 ⟨E2, rfl⟩
  have m2 := E2.1
  have E02 := E0.trans (E2.mono E0.1)
  have P2 := (E2.2 _ lP).trans P1
  have S2 := (E2.2 _ (at_lt S0)).trans S0
  have lS2 := at_lt S2
  cases hk : decide (chkF r = 0) with
  | false =>
    have hb : (chkF r != 0) = true := by rw [bne, beq_eq_false_iff_ne.2 (of_decide_eq_false hk)]; rfl
    have hkn : openF r id = (root0, chkF r) := by unfold openF; rw [if_neg (of_decide_eq_false hk)]
    obtain ⟨h5, hh5, E5, L5, l5⟩ := bad h2 E02 S2
    simp only [core, zrA, zrS, zrM, zrL, zrE, reduceCtorEq, zrD, ziE, ziL, ziN, aundef, hb, hkn, S2, lS2, ← hh5, L5, l5]
    exact ⟨E5, _, rfl, OwnQ.zero⟩
  | true =>
  have hc := of_decide_eq_true hk
  have hb : (chkF r != 0) = false := by rw [hc]; rfl
  obtain ⟨n1, n2⟩ := chk_len hc
  have hRt := chk_iff.1 hc
  have LP2 := ld_at (T := tabOf Tryz.prog NT0) P2
  have lP2 := at_lt P2
  simp only [core, zrA, zrS, zrM, zrL, zrE, reduceCtorEq, zrD, ziE, ziL, ziN, aundef, hb, LP2, lP2, o1, o2, o3, l1, l2, l3]
  refine (goodId_x hid).mono ?_
  rintro _ h3 ⟨E3, rfl⟩
  have m3 := E3.1
  have E03 := E02.trans (E3.mono E02.1)
  have P3 := (E3.2 _ lP2).trans P2
  have S3 := (E3.2 _ lS2).trans S2
  have lS3 := at_lt S3
  cases hg : goodIdF id with
  | false =>
    have hkn : openF r id = (root0, 22) := by unfold openF; rw [if_pos hc, if_neg (by rw [hg]; decide)]
    obtain ⟨h5, hh5, E5, L5, l5⟩ := bad h3 E03 S3
    simp only [core, zrA, zrS, zrM, zrL, zrE, reduceCtorEq, zrD, ziE, ziL, ziN, aundef, hg, hkn, S3, lS3, ← hh5, L5, l5]
    exact ⟨E5, _, rfl, OwnQ.zero⟩
  | true =>
  have LP3 := ld_at (T := tabOf Tryz.prog NT0) P3
  have lP3 := at_lt P3
  simp only [core, zrA, zrS, zrM, zrL, zrE, reduceCtorEq, zrD, ziE, ziL, ziN, aundef, hg, LP3, lP3, o1, o2, o3, l1, l2, l3]
  refine (Knows_x (hl.ext E03 (Nat.le_refl _)) (ho.ext E03 (Nat.le_refl _)) hr).mono ?_
  rintro _ hA ⟨eA, rfl⟩
  have nA := eA.1
  have EA := E03.trans (eA.mono E03.1)
  have PA := (eA.2 _ lP3).trans P3
  have SA := (eA.2 _ lS3).trans S3
  have LPA := ld_at (T := tabOf Tryz.prog NT0) PA
  have lPA := at_lt PA
  have lSA := at_lt SA
  cases hm : knowsF r id with
  | true =>
    have hkn : openF r id = (root0, 17) := by unfold openF; rw [if_pos hc, if_pos hg, if_pos hm]
    obtain ⟨h5, hh5, E5, L5, l5⟩ := bad hA EA SA
    simp only [core, zrA, zrS, zrM, zrL, zrE, reduceCtorEq, zrD, ziE, ziL, ziN, aundef, hm, hkn, SA, lSA, ← hh5, L5, l5]
    exact ⟨E5, _, rfl, OwnQ.zero⟩
  | false =>
  cases hf : decide ((16 : Int) ≤ (n : Int)) with
  | true =>
    have hkn : openF r id = (root0, 28) := by unfold openF; rw [if_pos hc, if_pos hg, if_neg (by rw [hm]; decide), if_pos (by have := of_decide_eq_true hf; omega)]
    obtain ⟨h5, hh5, E5, L5, l5⟩ := bad hA EA SA
    simp only [core, zrA, zrS, zrM, zrL, zrE, reduceCtorEq, zrD, ziE, ziL, ziN, aundef, hm, hf, hkn, LPA, lPA, o1, o2, o3, SA, lSA, ← hh5, L5, l5]
    exact ⟨E5, _, rfl, OwnQ.zero⟩
  | false =>
  have hn16 : n < 16 := by have := of_decide_eq_false hf; omega
  have hkn : openF r id = (⟨r.live, insT id r.ops⟩, 0) := by unfold openF; rw [if_pos hc, if_pos hg, if_neg (by rw [hm]; decide), if_neg (by omega)]
  have hno : id ∉ r.ops := fun hh => by rw [(knows_iff hRt).2 (.inl hh)] at hm; cases hm
  have hsrt : srtT (r.ops ++ [id]) = insT id r.ops := sortT_eq hRt.pO hno
  simp only [core, zrA, zrS, zrM, zrL, zrE, reduceCtorEq, zrD, ziE, ziL, ziN, aundef, hm, hf, LPA, lPA, o1, o2, o3, l1, l2, l3]
  refine (clone_x (hl.ext EA (Nat.le_refl _)) (ho.ext EA (Nat.le_refl _)) (by omega) (by omega)).mono ?_
  rintro _ h4 ⟨E4, a, b, rfl, oa, ob⟩
  have m4 := E4.1
  have E04 := EA.trans (E4.mono EA.1)
  have P4 := (E4.2 _ lPA).trans PA
  have S4 := (E4.2 _ lSA).trans SA
  have lP4 := at_lt P4
  have a1 := oa.one
  have a2 := oa.isSl
  have b1 := ob.one
  have b2 := ob.isSl
  obtain ⟨h5, hh5⟩ : ∃ h5, h5 = h4.put H.n (.cells [a, b] 25) := ⟨_, rfl⟩
  have E05 : Ext H.n H h5 := hh5 ▸ E04.put _ (Nat.le_refl _)
  have n5 : h5.n = h4.n := by rw [hh5, n_put]
  have P5 : h5.at H.n = some (.cells [a, b] 25) := hh5 ▸ at_put_same _ lP4
  have S5 : h5.at hp.n = _ := (hh5 ▸ at_put_ne _ (by omega) : h5.at hp.n = h4.at hp.n).trans S4
  have oa5 : OwnX setC 35 hA.n h5 a 28 r.live := hh5 ▸ oa.putLt (by omega)
  have ob5 : OwnX txC 1 hA.n h5 b 9 r.ops := hh5 ▸ ob.putLt (by omega)
  have LP5 := ld_at (T := tabOf Tryz.prog NT0) P5
  have lP5 := at_lt P5
  simp only [core, zrA, zrS, zrM, zrL, zrE, reduceCtorEq, zrD, ziE, ziL, ziN, P4, lP4, a1, a2, b1, b2, ← hh5, LP5, lP5]
  have e5 : Ext h5.n h5 (h5.push (.cells [.lit (.string ⟨id.toArray⟩)] 9)) := (Ext.refl _ _).push _ (Nat.le_refl _)
  refine WOp_app (snocK (T := tabOf Tryz.prog NT0) (t := 23) (y := id) flatTx (ob5.ext e5 (Nat.le_refl _)) (by kernel_rfl) (by kernel_rfl) (zv := .lit (.string ⟨#[]⟩)) (by kernel_rfl) (by' := 16) (by kernel_rfl) rfl (by decide) (at_push_n h5 _) (by omega) (by omega) (by rw [n_push]; omega)) ?_
  rintro w h6 ⟨ow, E6, K6⟩
  have E56 := (e5.mono (by omega : hA.n ≤ h5.n)).trans E6
  have P6 := (E56.2 _ (by omega)).trans P5
  have S6 := (E56.2 _ (by omega)).trans S5
  have lP6 := at_lt P6
  have lS6 := at_lt S6
  have w1 := ow.toX.one
  have w2 := ow.toX.isSl
  have oa6 : OwnX setC 35 hA.n h6 a 28 r.live := oa5.keep fun c off n cap hv => (K6 c (by rw [n_push]; have := (oa5.blk hv).1; omega) (oa5.sep ob5 (by decide) hv)).trans (e5.2 _ (oa5.blk hv).1)
  obtain ⟨p, p0, rfl, p2⟩ := ow
  obtain ⟨h7, hh7⟩ : ∃ h7, h7 = h6.put H.n (.cells [a, .sl p 0 (r.ops ++ [id]).length (.un 1)] 25) := ⟨_, rfl⟩
  have E06 := E05.trans (E56.mono (by omega))
  have E07 : Ext H.n H h7 := hh7 ▸ E06.put _ (Nat.le_refl _)
  have P7 : h7.at H.n = some (.cells [a, .sl p 0 (r.ops ++ [id]).length (.un 1)] 25) := hh7 ▸ at_put_same _ lP6
  have S7 : h7.at hp.n = _ := (hh7 ▸ at_put_ne _ (by omega) : h7.at hp.n = h6.at hp.n).trans S6
  have R7 : h7.at p = _ := (hh7 ▸ at_put_ne _ (by omega) : h7.at p = h6.at p).trans p2
  have oa7 : OwnX setC 35 hA.n h7 a 28 r.live := hh7 ▸ oa6.putLt (by omega)
  have LP7 := ld_at (T := tabOf Tryz.prog NT0) P7
  have lP7 := at_lt P7
  simp only [core, zrA, zrS, zrM, zrL, zrE, reduceCtorEq, zrD, ziE, ziL, ziN, P6, lP6, a1, a2, w1, w2, ← hh7, LP7, lP7]
  refine sortT_c R7 (by rw [List.length_append]; simp) (by rw [List.length_append, List.length_singleton]; omega) ?_
  rw [hsrt]
  obtain ⟨h8, hh8⟩ : ∃ h8, h8 = h7.put p (.cells ((insT id r.ops).flatMap txC) 9) := ⟨_, rfl⟩
  have lR7 := at_lt R7
  have E08 : Ext H.n H h8 := hh8 ▸ E07.put _ (by omega)
  have P8 : h8.at H.n = _ := (hh8 ▸ at_put_ne _ (by omega) : h8.at H.n = h7.at H.n).trans P7
  have S8 : h8.at hp.n = _ := (hh8 ▸ at_put_ne _ (by omega) : h8.at hp.n = h7.at hp.n).trans S7
  have R8 : h8.at p = some (.cells ((insT id r.ops).flatMap txC) 9) := hh8 ▸ at_put_same _ lR7
  have oa8 : OwnX setC 35 hA.n h8 a 28 r.live := oa7.keep fun c off n cap hv => hh8 ▸ at_put_ne _ fun hh => by
    obtain ⟨-, -, l, hl⟩ := oa7.blk hv
    rw [← hh, R7] at hl
    cases hl
  have LP8 := ld_at (T := tabOf Tryz.prog NT0) P8
  have lP8 := at_lt P8
  have lS8 := at_lt S8
  obtain ⟨h9, hh9⟩ : ∃ h9, h9 = h8.put hp.n (.cells [a, .sl p 0 (r.ops ++ [id]).length (.un 1)] 25) := ⟨_, rfl⟩
  have E09 : Ext H.n H h9 := hh9 ▸ E08.put _ (by omega)
  have S9 : h9.at hp.n = some (.cells [a, .sl p 0 (r.ops ++ [id]).length (.un 1)] 25) := hh9 ▸ at_put_same _ lS8
  have R9 : h9.at p = _ := (hh9 ▸ at_put_ne _ (by omega) : h9.at p = h8.at p).trans R8
  have oa9 : OwnX setC 35 hA.n h9 a 28 r.live := hh9 ▸ oa8.putLt (by omega)
  have LS9 := ld_at (T := tabOf Tryz.prog NT0) S9
  have lS9 := at_lt S9
  simp only [core, zrA, zrS, zrM, zrL, zrE, reduceCtorEq, zrD, ziE, ziL, ziN, ← hh8, LP8, lP8, a1, a2, w1, w2, S8, lS8, ← hh9, LS9, lS9]
  rw [hkn]
  exact ⟨E09, _, rfl, a, _, rfl, oa9.mono (by omega), .inr (.inr ⟨p, [], by omega, by rw [(insT_perm id r.ops).length_eq], by rw [List.append_nil]; exact R9⟩)⟩
end Go.Proofs.YtdcmfchodooolaaGreatDoor.Ex
end

section

set_option linter.unusedSimpArgs false
set_option linter.unusedVariables false
set_option maxRecDepth 10000
set_option maxHeartbeats 4000000
namespace Go.Proofs.YtdcmfchodooolaaGreatDoor.Ex
open Go
theorem srtS_insS {s : SetD} {l d : List SetD} (h : l.Pairwise (fun a b => ltS a.name b.name = true)) (hd : d = l.filter fun y => !(y.name == s.name)) : srtS (d ++ [s]) = insS s l := by
  subst hd
  refine sortS_eq h (List.mergeSort_perm _ _) ?_
  have := List.pairwise_mergeSort (le := fun x y : SetD => !ltS y.name x.name) (fun a b c h h' => by rw [Bool.not_eq_true'] at *; exact le_tr h h') (fun a b => by rcases le_tot a.name b.name with h | h <;> unfold leS at h <;> simp [h]) ((l.filter fun y => !(y.name == s.name)) ++ [s])
  exact this.imp fun {a b} h => by rw [Bool.not_eq_true'] at h; exact h
theorem nodup_ins {s : SetD} {l d : List SetD} (h : l.Pairwise (fun a b => ltS a.name b.name = true)) (hd : d = l.filter fun y => !(y.name == s.name)) : ((d ++ [s]).map (·.name)).Nodup := by
  subst hd
  rw [List.map_append, List.map_singleton]
  refine List.nodup_append.2 ⟨List.pairwise_map.2 ((h.filter _).imp fun h => lt_ne h), List.pairwise_singleton _ _, fun a ha b hb e => ?_⟩
  obtain ⟨y, hy, rfl⟩ := List.mem_map.1 ha
  rw [List.mem_singleton.1 hb] at e
  have := (List.mem_filter.1 hy).2
  rw [e] at this
  simp at this
theorem Commit_x {F : Nat → Prop} {H : AH} {vl vo : AV} {r : RootD} {s : SetD} (hl : IsSl RSet F H vl r.live) (ho : IsSl RTx F H vo r.ops) (hr : RLen r) (hid : s.id.length ≤ 1100000) (hnm : s.name.length ≤ 4611686018427387000) :
    WC Tryz.prog (tabOf Tryz.prog NT0) S0 8 [.agg [vl, vo], .agg (setC s)] H fun v h' => Ext H.n H h' ∧ ∃ u, v = .tup [u, .lit (.int .i64 (commitF r s).2)] ∧ OwnQ 28 H.n h' u (commitF r s).1 := by
  refine WC_fn Tryz.func8 rfl rfl ?_
  have l1 := hl.one
  have l2 := hl.isSl
  have l3 := hl.lenD
  have o1 := ho.one
  have o2 := ho.isSl
  have o3 := ho.lenD
  obtain ⟨m, hM⟩ : ∃ m, m = r.live.length := ⟨_, rfl⟩
  rw [← hM] at l3
  obtain ⟨hp, hhp⟩ : ∃ hp, hp = H.push (.cells [vl, vo] 25) := ⟨_, rfl⟩
  have EP : Ext H.n H hp := hhp ▸ (Ext.refl _ _).push _ (Nat.le_refl _)
  have nP : hp.n = H.n + 1 := by rw [hhp, n_push]
  have P0 : hp.at H.n = some (.cells [vl, vo] 25) := hhp ▸ at_push_n _ _
  obtain ⟨hw, hhw⟩ : ∃ hw, hw = hp.push (.cells (setC s) 28) := ⟨_, rfl⟩
  have EB0 : Ext hp.n hp hw := hhw ▸ (Ext.refl _ _).push _ (Nat.le_refl _)
  have nB : hw.n = H.n + 2 := by rw [hhw, n_push, nP]
  have B0 : hw.at hp.n = some (.cells (setC s) 28) := hhw ▸ at_push_n _ _
  have PB := (EB0.2 _ (at_lt P0)).trans P0
  obtain ⟨hs, hhs⟩ : ∃ hs, hs = hw.push (.cells [.lit (.slice none 0 0), .lit (.slice none 0 0)] 25) := ⟨_, rfl⟩
  have ES : Ext hw.n hw hs := hhs ▸ (Ext.refl _ _).push _ (Nat.le_refl _)
  have nS : hs.n = H.n + 3 := by rw [hhs, n_push, nB]
  have S0 : hs.at hw.n = some (.cells [.lit (.slice none 0 0), .lit (.slice none 0 0)] 25) := hhs ▸ at_push_n _ _
  have P1 := (ES.2 _ (at_lt PB)).trans PB
  have B1 := (ES.2 _ (at_lt B0)).trans B0
  have E0 := EP.trans ((EB0.trans (ES.mono EB0.1)).mono EP.1)
  have LP := ld_at (T := tabOf Tryz.prog NT0) P1
  have lP := at_lt P1
  have bad : ∀ h4 : AH, Ext H.n H h4 → h4.at hw.n = some (.cells [.lit (.slice none 0 0), .lit (.slice none 0 0)] 25) →
      ∃ h5, h5 = h4.put hw.n (.cells [.lit (.slice none 0 0), .lit (.slice none 0 0)] 25) ∧ Ext H.n H h5 ∧ (∀ e i, loadA (tabOf Tryz.prog NT0) h5 e hw.n i = ldL (tabOf Tryz.prog NT0) e [.lit (.slice none 0 0), .lit (.slice none 0 0)] i) ∧ hw.n < h5.n := fun h4 e4 a4 =>
    ⟨_, rfl, e4.put _ (by omega), ld_at (at_put_same _ (at_lt a4)), by rw [n_put]; exact at_lt a4⟩
  have LB0 := ld_at (T := tabOf Tryz.prog NT0) B1
  have lB0 := at_lt B1
  unfold setC at hhw ⊢
  simp only [core, zrA, zrS, zrM, zrL, zrE, reduceCtorEq, zrD, ziE, ziL, ziN, Tryz.ntmps8, l1, l2, l3, o1, o2, o3, ← hhp, ← hhw, ← hhs, LP, lP]
  refine (CheckRoot_x (hl.ext E0 (Nat.le_refl _)) (ho.ext E0 (Nat.le_refl _)) hr.o hr.s).mono ?_
  rintro _ h2 ⟨E2, rfl⟩
  have m2 := E2.1
  have E02 := E0.trans (E2.mono E0.1)
  have P2 := (E2.2 _ lP).trans P1
  have B2 := (E2.2 _ lB0).trans B1
  have S2 := (E2.2 _ (at_lt S0)).trans S0
  have lS2 := at_lt S2
  cases hk : decide (chkF r = 0) with
  | false =>
    have hb : (chkF r != 0) = true := by rw [bne, beq_eq_false_iff_ne.2 (of_decide_eq_false hk)]; rfl
    have hkn : commitF r s = (root0, chkF r) := by unfold commitF; rw [if_neg (of_decide_eq_false hk)]
    obtain ⟨h5, hh5, E5, L5, l5⟩ := bad h2 E02 S2
    simp only [core, zrA, zrS, zrM, zrL, zrE, reduceCtorEq, zrD, ziE, ziL, ziN, aundef, hb, hkn, S2, lS2, ← hh5, L5, l5]
    exact ⟨E5, _, rfl, OwnQ.zero⟩
  | true =>
  have hc := of_decide_eq_true hk
  have hb : (chkF r != 0) = false := by rw [hc]; rfl
  obtain ⟨n1, n2⟩ := chk_len hc
  have LP2 := ld_at (T := tabOf Tryz.prog NT0) P2
  have lP2 := at_lt P2
  have hRt := chk_iff.1 hc
  have LB2 := ld_at (T := tabOf Tryz.prog NT0) B2
  have lB2 := at_lt B2
  unfold setC at LB2
  simp only [core, zrA, zrS, zrM, zrL, zrE, reduceCtorEq, zrD, ziE, ziL, ziN, aundef, hb, LP2, lP2, LB2, lB2, o1, o2, o3, l1, l2, l3]
  refine (Find_x (hl.ext E02 (Nat.le_refl _)) (ho.ext E02 (Nat.le_refl _)) hr).mono ?_
  rintro _ h3 ⟨E3, rfl⟩
  have m3 := E3.1
  have E03 := E02.trans (E3.mono E02.1)
  have P3 := (E3.2 _ lP2).trans P2
  have B3 := (E3.2 _ lB2).trans B2
  have S3 := (E3.2 _ lS2).trans S2
  obtain ⟨y, hy⟩ : ∃ y, y = (findF r s.name).getD set0 := ⟨_, rfl⟩
  rw [← hy]
  obtain ⟨h4, hh4⟩ : ∃ h4, h4 = h3.push (.cells (setC y) 28) := ⟨_, rfl⟩
  have E4 : Ext h3.n h3 h4 := hh4 ▸ (Ext.refl _ _).push _ (Nat.le_refl _)
  have n4 : h4.n = h3.n + 1 := by rw [hh4, n_push]
  have E04 := E03.trans (E4.mono E03.1)
  have P4 := (E4.2 _ (at_lt P3)).trans P3
  have B4 := (E4.2 _ (at_lt B3)).trans B3
  have S4 := (E4.2 _ (at_lt S3)).trans S3
  have LP4 := ld_at (T := tabOf Tryz.prog NT0) P4
  have lP4 := at_lt P4
  have LB4 := ld_at (T := tabOf Tryz.prog NT0) B4
  have lB4 := at_lt B4
  have lS4 := at_lt S4
  unfold setC at hh4 LB4 ⊢
  simp only [core, zrA, zrS, zrM, zrL, zrE, reduceCtorEq, zrD, ziE, ziL, ziN, aundef, ← hh4, LP4, lP4, LB4, lB4, o1, o2, o3, l1, l2, l3]
  refine (goodId_x hid).mono ?_
  rintro _ h5 ⟨E5, rfl⟩
  have m5 := E5.1
  have E05 := E04.trans (E5.mono E04.1)
  have P5 := (E5.2 _ lP4).trans P4
  have B5 := (E5.2 _ lB4).trans B4
  have S5 := (E5.2 _ lS4).trans S4
  have lS5 := at_lt S5
  have LP5 := ld_at (T := tabOf Tryz.prog NT0) P5
  have lP5 := at_lt P5
  have LB5 := ld_at (T := tabOf Tryz.prog NT0) B5
  have lB5 := at_lt B5
  unfold setC at LB5
  have bad22 : ¬ (goodIdF s.id = true ∧ 0 ≤ s.size ∧ s.size ≤ 2147483647) → commitF r s = (root0, 22) := fun hh => by unfold commitF; rw [if_pos hc, if_neg hh]
  cases hg : goodIdF s.id with
  | false =>
    have hkn := bad22 fun hh => by rw [hg] at hh; cases hh.1
    obtain ⟨h6, hh6, E6, L6, l6⟩ := bad h5 E05 S5
    simp only [core, zrA, zrS, zrM, zrL, zrE, reduceCtorEq, zrD, ziE, ziL, ziN, aundef, hg, hkn, S5, lS5, ← hh6, L6, l6]
    exact ⟨E6, _, rfl, OwnQ.zero⟩
  | true =>
  cases q2 : decide (s.size < 0) with
  | true =>
    have hkn := bad22 fun hh => by have := of_decide_eq_true q2; omega
    obtain ⟨h6, hh6, E6, L6, l6⟩ := bad h5 E05 S5
    simp only [core, zrA, zrS, zrM, zrL, zrE, reduceCtorEq, zrD, ziE, ziL, ziN, aundef, hg, q2, hkn, LB5, lB5, S5, lS5, ← hh6, L6, l6]
    exact ⟨E6, _, rfl, OwnQ.zero⟩
  | false =>
  cases q3 : decide (2147483647 < s.size) with
  | true =>
    have hkn := bad22 fun hh => by have := of_decide_eq_true q3; omega
    obtain ⟨h6, hh6, E6, L6, l6⟩ := bad h5 E05 S5
    simp only [core, zrA, zrS, zrM, zrL, zrE, reduceCtorEq, zrD, ziE, ziL, ziN, aundef, hg, q2, q3, hkn, LB5, lB5, S5, lS5, ← hh6, L6, l6]
    exact ⟨E6, _, rfl, OwnQ.zero⟩
  | false =>
  have hok : goodIdF s.id = true ∧ 0 ≤ s.size ∧ s.size ≤ 2147483647 := ⟨hg, by have := of_decide_eq_false q2; omega, by have := of_decide_eq_false q3; omega⟩
  simp only [core, zrA, zrS, zrM, zrL, zrE, reduceCtorEq, zrD, ziE, ziL, ziN, aundef, hg, q2, q3, LP5, lP5, LB5, lB5, o1, o2, o3, l1, l2, l3]
  refine (mgood_x hnm).mono ?_
  rintro _ h6 ⟨rfl, q5⟩
  replace q5 := q5.symm
  subst q5
  cases hn : mGood s.name with
  | false =>
    have hkn : commitF r s = (root0, 36) := by unfold commitF; rw [if_pos hc, if_pos hok, if_neg (by rw [hn]; decide)]
    obtain ⟨h6, hh6, E6, L6, l6⟩ := bad h5 E05 S5
    simp only [core, zrA, zrS, zrM, zrL, zrE, reduceCtorEq, zrD, ziE, ziL, ziN, aundef, hn, hkn, S5, lS5, ← hh6, L6, l6]
    exact ⟨E6, _, rfl, OwnQ.zero⟩
  | true =>
  simp only [core, zrA, zrS, zrM, zrL, zrE, reduceCtorEq, zrD, ziE, ziL, ziN, aundef, hn, LP5, lP5, LB5, lB5, o1, o2, o3, l1, l2, l3]
  refine (containsT_x (ho.ext E05 (Nat.le_refl _)) (by omega)).mono ?_
  rintro _ h6 ⟨E6, rfl⟩
  have m6 := E6.1
  have E06 := E05.trans (E6.mono E05.1)
  have P6 := (E6.2 _ lP5).trans P5
  have B6 := (E6.2 _ lB5).trans B5
  have S6 := (E6.2 _ lS5).trans S5
  have LP6 := ld_at (T := tabOf Tryz.prog NT0) P6
  have lP6 := at_lt P6
  have LB6 := ld_at (T := tabOf Tryz.prog NT0) B6
  have lB6 := at_lt B6
  have lS6 := at_lt S6
  unfold setC at LB6
  cases hm : r.ops.any (fun x => s.id == x) with
  | false =>
    have hkn : commitF r s = (root0, 125) := by unfold commitF; rw [if_pos hc, if_pos hok, if_pos hn, if_neg (by rw [hm]; decide)]
    obtain ⟨h7, hh7, E7, L7, l7⟩ := bad h6 E06 S6
    simp only [core, zrA, zrS, zrM, zrL, zrE, reduceCtorEq, zrD, ziE, ziL, ziN, aundef, hkn, S6, lS6, ← hh7, L7, l7]
    exact ⟨E7, _, rfl, OwnQ.zero⟩
  | true =>
  have hcs : ((findF r s.name).isSome = false ∧ (16 : Int) ≤ (m : Int)) ∨ ((findF r s.name).isSome = true ∧ (findF r s.name).isSome = true) ∨ ((findF r s.name).isSome = false ∧ decide ((16 : Int) ≤ (m : Int)) = false) := by
    cases (findF r s.name).isSome with
    | true => exact .inr (.inl ⟨rfl, rfl⟩)
    | false => by_cases h : (16 : Int) ≤ (m : Int); exact .inl ⟨rfl, h⟩; exact .inr (.inr ⟨rfl, decide_eq_false h⟩)
  rcases hcs with ⟨hf, h16⟩ | hgo
  · have hkn : commitF r s = (root0, 28) := by unfold commitF; rw [if_pos hc, if_pos hok, if_pos hn, if_pos hm, if_pos ⟨hf, by omega⟩]
    have h16' : decide ((16 : Int) ≤ (m : Int)) = true := decide_eq_true h16
    obtain ⟨h8, hh8, E8, L8, l8⟩ := bad h6 E06 S6
    simp only [core, zrA, zrS, zrM, zrL, zrE, reduceCtorEq, zrD, ziE, ziL, ziN, aundef, hf, h16', hkn, LP6, lP6, l1, l2, l3, o1, o2, o3, S6, lS6, ← hh8, L8, l8]
    exact ⟨E8, _, rfl, OwnQ.zero⟩
  have hkn : commitF r s = (⟨insS s r.live, r.ops.filter fun x => !(x == s.id)⟩, 0) := by
    unfold commitF
    rw [if_pos hc, if_pos hok, if_pos hn, if_pos hm, if_neg]
    rintro ⟨h1, h2⟩
    rcases hgo with ⟨h3, -⟩ | ⟨-, h3⟩
    · rw [h3] at h1; cases h1
    · have := of_decide_eq_false h3; omega
  have hcl : closeF r s.id = (⟨r.live, r.ops.filter fun x => !(x == s.id)⟩, true) := by unfold closeF; rw [if_pos ⟨hc, hm⟩]
  obtain ⟨ops, hops⟩ : ∃ ops, ops = r.ops.filter fun x => !(x == s.id) := ⟨_, rfl⟩
  rw [← hops] at hcl hkn
  have hRc : Right ⟨r.live, ops⟩ := hops ▸ hRt.close
  have hCc := chk_iff.2 hRc
  have hLc : RLen ⟨r.live, ops⟩ := ⟨fun x hx => hr.o x (List.mem_filter.1 (hops ▸ hx)).1, hr.s⟩
  have step1 : ∀ (h : AH) (Q : AV → AH → Prop), (∀ v h', (Ext h.n h h' ∧ ∃ a b, v = .tup [.agg [a, b], .lit (.bool true)] ∧ OwnX setC 35 h.n h' a 28 r.live ∧ OwnX txC 1 h.n h' b 9 ops) → Q v h') → Ext H.n H h → WC Tryz.prog (tabOf Tryz.prog NT0) Ex.S0 12 [.agg [vl, vo], .lit (.string ⟨s.id.toArray⟩)] h Q := fun h Q hq e => by
    refine (Close_x (hl.ext e (Nat.le_refl _)) (ho.ext e (Nat.le_refl _)) hr).mono ?_
    rintro v h' ⟨e1, u, rfl, a, b, rfl, oa, ob⟩
    rw [hcl] at oa ob ⊢
    exact hq _ _ ⟨e1, a, b, rfl, oa, ob⟩
  have hfc : findF ⟨r.live, ops⟩ s.name = findF r s.name := by unfold findF; rw [if_pos hCc, if_pos hc]
  have hdl : (findF r s.name).isSome = true → deleteF ⟨r.live, ops⟩ s.name = (⟨r.live.filter fun y => !(y.name == s.name), ops⟩, 0) := fun hh => by
    unfold deleteF
    rw [if_pos hCc, if_pos hn, if_pos (by rw [hfc]; exact hh)]
  have hnf : (findF r s.name).isSome = false → r.live = r.live.filter fun y => !(y.name == s.name) := fun hh => by
    unfold findF at hh
    rw [if_pos hc] at hh
    refine (List.filter_eq_self.2 fun y hy => ?_).symm
    have h0 := Option.not_isSome_iff_eq_none.1 (by rw [hh]; decide)
    have := List.find?_eq_none.1 h0 y hy
    simpa using this
  rcases hgo with ⟨hf, hlen16⟩ | ⟨hf, hlen16⟩
  · simp only [core, zrA, zrS, zrM, zrL, zrE, reduceCtorEq, zrD, ziE, ziL, ziN, aundef, hf, hlen16, LP6, lP6, LB6, lB6, l1, l2, l3, o1, o2, o3]
    refine step1 _ _ (fun v h7 hh => ?_) E06
    obtain ⟨E7, a, b, rfl, oa, ob⟩ := hh
    have m7 := E7.1
    have E07 := E06.trans (E7.mono E06.1)
    have P7 := (E7.2 _ lP6).trans P6
    have B7 := (E7.2 _ lB6).trans B6
    have S7 := (E7.2 _ lS6).trans S6
    have lP7 := at_lt P7
    have a1 := oa.one
    have a2 := oa.isSl
    have b1 := ob.one
    have b2 := ob.isSl
    obtain ⟨h8, hh8⟩ : ∃ h8, h8 = h7.put H.n (.cells [a, b] 25) := ⟨_, rfl⟩
    have n8 : h8.n = h7.n := by rw [hh8, n_put]
    have E08 : Ext H.n H h8 := hh8 ▸ E07.put _ (Nat.le_refl _)
    have P8 : h8.at H.n = some (.cells [a, b] 25) := hh8 ▸ at_put_same _ lP7
    have B8 : h8.at hp.n = _ := (hh8 ▸ at_put_ne _ (by omega) : h8.at hp.n = h7.at hp.n).trans B7
    have S8 : h8.at hw.n = _ := (hh8 ▸ at_put_ne _ (by omega) : h8.at hw.n = h7.at hw.n).trans S7
    have oa8 : OwnX setC 35 h6.n h8 a 28 r.live := hh8 ▸ oa.putLt (by omega)
    have ob8 : OwnX txC 1 h6.n h8 b 9 ops := hh8 ▸ ob.putLt (by omega)
    have LP8 := ld_at (T := tabOf Tryz.prog NT0) P8
    have lP8 := at_lt P8
    have LB8 := ld_at (T := tabOf Tryz.prog NT0) B8
    have lB8 := at_lt B8
    unfold setC at LB8
    simp only [core, zrA, zrS, zrM, zrL, zrE, reduceCtorEq, zrD, ziE, ziL, ziN, aundef, hf, a1, a2, b1, b2, P7, lP7, ← hh8, LP8, lP8, LB8, lB8]
    refine (Delete_x (r := ⟨r.live, ops⟩) (F := fun _ => True) (oa8.toSl flatSet fun _ _ => trivial) (ob8.toSl flatTx fun _ _ => trivial) hLc hnm).mono ?_
    rintro v h9 ⟨E9, u, rfl, hQ⟩
    rw [hdl hf] at hQ ⊢
    obtain ⟨a', b', rfl, oa, ob⟩ := hQ
    have m9 := E9.1
    have E09 := E08.trans (E9.mono E08.1)
    have P9 := (E9.2 _ lP8).trans P8
    have B9 := (E9.2 _ lB8).trans B8
    have S9 := (E9.2 _ (at_lt S8)).trans S8
    have lP9 := at_lt P9
    have a1 := oa.one
    have a2 := oa.isSl
    have b1 := ob.one
    have b2 := ob.isSl
    obtain ⟨g0, hg0⟩ : ∃ g0, g0 = h9.put H.n (.cells [a', b'] 25) := ⟨_, rfl⟩
    have m0 : g0.n = h9.n := by rw [hg0, n_put]
    have F0 : Ext H.n H g0 := hg0 ▸ E09.put _ (Nat.le_refl _)
    have P0' : g0.at H.n = some (.cells [a', b'] 25) := hg0 ▸ at_put_same _ lP9
    have B0' : g0.at hp.n = _ := (hg0 ▸ at_put_ne _ (by omega) : g0.at hp.n = h9.at hp.n).trans B9
    have S0' : g0.at hw.n = _ := (hg0 ▸ at_put_ne _ (by omega) : g0.at hw.n = h9.at hw.n).trans S9
    have oa0 : OwnX setC 35 h6.n g0 a' 28 (r.live.filter fun y => !(y.name == s.name)) := (hg0 ▸ oa.putLt (by omega) : OwnX setC 35 h8.n g0 a' 28 _).mono (by omega)
    have ob0 : OwnX txC 1 h6.n g0 b' 9 ops := (hg0 ▸ ob.putLt (by omega) : OwnX txC 1 h8.n g0 b' 9 _).mono (by omega)
    have LP0 := ld_at (T := tabOf Tryz.prog NT0) P0'
    have lP0 := at_lt P0'
    have LB0' := ld_at (T := tabOf Tryz.prog NT0) B0'
    have lB0' := at_lt B0'
    unfold setC at LB0'
    obtain ⟨d, hd⟩ : ∃ d, d = r.live.filter fun y => !(y.name == s.name) := ⟨_, rfl⟩
    rw [← hd] at oa0
    simp only [core, zrA, zrS, zrM, zrL, zrE, reduceCtorEq, zrD, ziE, ziL, ziN, aundef, a1, a2, b1, b2, P9, lP9, ← hg0, LP0, lP0, LB0', lB0']
    have hdn : d.length ≤ 16 := by rw [hd]; exact Nat.le_trans (List.length_filter_le _ _) n2
    have hsrt := srtS_insS hRt.pL hd
    have hnd := nodup_ins hRt.pL hd
    have lS0' := at_lt S0'
    have e5 : Ext g0.n g0 (g0.push (.cells (setC s) 28)) := (Ext.refl _ _).push _ (Nat.le_refl _)
    have happ := fun cap => snocK (T := tabOf Tryz.prog NT0) (t := 22) (y := s) (cap := cap) flatSet (oa0.ext e5 (Nat.le_refl _)) (by kernel_rfl) (by kernel_rfl) (zv := .agg (setC set0)) (by kernel_rfl) (by' := 72) (by kernel_rfl) rfl (by decide) (at_push_n g0 _) (by omega) (by omega) (by rw [n_push]; omega)
    have e5' := e5
    unfold setC at happ e5'
    refine WOp_app (happ _) ?_
    rintro w k1 ⟨ow, E1, K1⟩
    have E01 := (e5'.mono (by omega : h6.n ≤ g0.n)).trans E1
    have P1' := (E01.2 _ (by omega)).trans P0'
    have B1' := (E01.2 _ (by omega)).trans B0'
    have S1' := (E01.2 _ (by omega)).trans S0'
    have lP1 := at_lt P1'
    have w1 := ow.toX.one
    have w2 := ow.toX.isSl
    have ob1 : OwnX txC 1 h6.n k1 b' 9 ops := ob0.keep fun c off n cap hv => (K1 c (by rw [n_push]; have := (ob0.blk hv).1; omega) (ob0.sep oa0 (by decide) hv)).trans (e5'.2 _ (ob0.blk hv).1)
    obtain ⟨p, p0, rfl, p2⟩ := ow
    obtain ⟨k2, hk2⟩ : ∃ k2, k2 = k1.put H.n (.cells [.sl p 0 (d ++ [s]).length (.un 35), b'] 25) := ⟨_, rfl⟩
    have F2 : Ext H.n H k2 := hk2 ▸ (F0.trans (E01.mono (by omega))).put _ (Nat.le_refl _)
    have P2' : k2.at H.n = some (.cells [.sl p 0 (d ++ [s]).length (.un 35), b'] 25) := hk2 ▸ at_put_same _ lP1
    have S2' : k2.at hw.n = _ := (hk2 ▸ at_put_ne _ (by omega) : k2.at hw.n = k1.at hw.n).trans S1'
    have R2 : k2.at p = _ := (hk2 ▸ at_put_ne _ (by omega) : k2.at p = k1.at p).trans p2
    have ob2 : OwnX txC 1 h6.n k2 b' 9 ops := hk2 ▸ ob1.putLt (by omega)
    have LP2' := ld_at (T := tabOf Tryz.prog NT0) P2'
    have lP2' := at_lt P2'
    simp only [core, zrA, zrS, zrM, zrL, zrE, reduceCtorEq, zrD, ziE, ziL, ziN, P1', lP1, b1, b2, w1, w2, ← hk2, LP2', lP2']
    refine sortF_c R2 (by rw [List.length_append]; simp) (by rw [List.length_append, List.length_singleton]; omega) hnd ?_
    rw [hsrt]
    have lR2 := at_lt R2
    obtain ⟨k3, hk3⟩ : ∃ k3, k3 = k2.put p (.cells ((insS s r.live).flatMap setC) 28) := ⟨_, rfl⟩
    have F3 : Ext H.n H k3 := hk3 ▸ F2.put _ (by omega)
    have P3' : k3.at H.n = _ := (hk3 ▸ at_put_ne _ (by omega) : k3.at H.n = k2.at H.n).trans P2'
    have S3' : k3.at hw.n = _ := (hk3 ▸ at_put_ne _ (by omega) : k3.at hw.n = k2.at hw.n).trans S2'
    have R3 : k3.at p = some (.cells ((insS s r.live).flatMap setC) 28) := hk3 ▸ at_put_same _ lR2
    have ob3 : OwnX txC 1 h6.n k3 b' 9 ops := ob2.keep fun c off n cap hv => hk3 ▸ at_put_ne _ fun hh => by
      obtain ⟨-, -, l, hl⟩ := ob2.blk hv
      rw [← hh, R2] at hl
      cases hl
    have LP3' := ld_at (T := tabOf Tryz.prog NT0) P3'
    have lP3' := at_lt P3'
    have lS3' := at_lt S3'
    obtain ⟨k4, hk4⟩ : ∃ k4, k4 = k3.put hw.n (.cells [.sl p 0 (d ++ [s]).length (.un 35), b'] 25) := ⟨_, rfl⟩
    have F4 : Ext H.n H k4 := hk4 ▸ F3.put _ (by omega)
    have S4' : k4.at hw.n = some (.cells [.sl p 0 (d ++ [s]).length (.un 35), b'] 25) := hk4 ▸ at_put_same _ lS3'
    have R4 : k4.at p = _ := (hk4 ▸ at_put_ne _ (by omega) : k4.at p = k3.at p).trans R3
    have ob4 : OwnX txC 1 h6.n k4 b' 9 ops := hk4 ▸ ob3.putLt (by omega)
    have LS4 := ld_at (T := tabOf Tryz.prog NT0) S4'
    have lS4' := at_lt S4'
    simp only [core, zrA, zrS, zrM, zrL, zrE, reduceCtorEq, zrD, ziE, ziL, ziN, ← hk3, LP3', lP3', b1, b2, w1, w2, S3', lS3', ← hk4, LS4, lS4']
    rw [hkn]
    exact ⟨F4, _, rfl, _, b', rfl, .inr (.inr ⟨p, [], by omega, by rw [← hsrt]; unfold srtS; rw [(List.mergeSort_perm _ _).length_eq], by rw [List.append_nil]; exact R4⟩), ob4.mono (by omega)⟩
  · simp only [core, zrA, zrS, zrM, zrL, zrE, reduceCtorEq, zrD, ziE, ziL, ziN, aundef, hf, hlen16, LP6, lP6, LB6, lB6, l1, l2, l3, o1, o2, o3]
    refine step1 _ _ (fun v h7 hh => ?_) E06
    obtain ⟨E7, a, b, rfl, oa, ob⟩ := hh
    have m7 := E7.1
    have E07 := E06.trans (E7.mono E06.1)
    have P7 := (E7.2 _ lP6).trans P6
    have B7 := (E7.2 _ lB6).trans B6
    have S7 := (E7.2 _ lS6).trans S6
    have lP7 := at_lt P7
    have a1 := oa.one
    have a2 := oa.isSl
    have b1 := ob.one
    have b2 := ob.isSl
    obtain ⟨h8, hh8⟩ : ∃ h8, h8 = h7.put H.n (.cells [a, b] 25) := ⟨_, rfl⟩
    have n8 : h8.n = h7.n := by rw [hh8, n_put]
    have E08 : Ext H.n H h8 := hh8 ▸ E07.put _ (Nat.le_refl _)
    have P8 : h8.at H.n = some (.cells [a, b] 25) := hh8 ▸ at_put_same _ lP7
    have B8 : h8.at hp.n = _ := (hh8 ▸ at_put_ne _ (by omega) : h8.at hp.n = h7.at hp.n).trans B7
    have S8 : h8.at hw.n = _ := (hh8 ▸ at_put_ne _ (by omega) : h8.at hw.n = h7.at hw.n).trans S7
    have oa8 : OwnX setC 35 h6.n h8 a 28 r.live := hh8 ▸ oa.putLt (by omega)
    have ob8 : OwnX txC 1 h6.n h8 b 9 ops := hh8 ▸ ob.putLt (by omega)
    have LP8 := ld_at (T := tabOf Tryz.prog NT0) P8
    have lP8 := at_lt P8
    have LB8 := ld_at (T := tabOf Tryz.prog NT0) B8
    have lB8 := at_lt B8
    unfold setC at LB8
    obtain ⟨g0, hg0⟩ : ∃ g0, g0 = h8 := ⟨_, rfl⟩
    obtain ⟨a', ha'⟩ : ∃ a', a' = a := ⟨_, rfl⟩
    obtain ⟨b', hb'⟩ : ∃ b', b' = b := ⟨_, rfl⟩
    have m0 : g0.n = h8.n := by rw [hg0]
    simp only [core, zrA, zrS, zrM, zrL, zrE, reduceCtorEq, zrD, ziE, ziL, ziN, aundef, hf, a1, a2, b1, b2, P7, lP7, ← hh8, LP8, lP8, LB8, lB8]
    rw [← ha', ← hb'] at P8
    rw [← hg0] at E08 P8 B8 S8 oa8 ob8
    rw [← ha'] at oa8 a1 a2
    rw [← hb'] at ob8 b1 b2
    rw [← hg0, ← ha']
    have F0 := E08
    have P0' := P8
    have B0' := B8
    have S0' := S8
    have oa0 := oa8
    have ob0 := ob8
    obtain ⟨d, hd0⟩ : ∃ d, d = r.live := ⟨_, rfl⟩
    have hd : d = r.live.filter fun y => !(y.name == s.name) := hd0.trans (hnf hf)
    rw [← hd0] at oa0
    have LP0 := ld_at (T := tabOf Tryz.prog NT0) P0'
    have lP0 := at_lt P0'
    have hdn : d.length ≤ 16 := by rw [hd]; exact Nat.le_trans (List.length_filter_le _ _) n2
    have hsrt := srtS_insS hRt.pL hd
    have hnd := nodup_ins hRt.pL hd
    have lS0' := at_lt S0'
    have e5 : Ext g0.n g0 (g0.push (.cells (setC s) 28)) := (Ext.refl _ _).push _ (Nat.le_refl _)
    have happ := fun cap => snocK (T := tabOf Tryz.prog NT0) (t := 22) (y := s) (cap := cap) flatSet (oa0.ext e5 (Nat.le_refl _)) (by kernel_rfl) (by kernel_rfl) (zv := .agg (setC set0)) (by kernel_rfl) (by' := 72) (by kernel_rfl) rfl (by decide) (at_push_n g0 _) (by omega) (by omega) (by rw [n_push]; omega)
    have e5' := e5
    unfold setC at happ e5'
    refine WOp_app (happ _) ?_
    rintro w k1 ⟨ow, E1, K1⟩
    have E01 := (e5'.mono (by omega : h6.n ≤ g0.n)).trans E1
    have P1' := (E01.2 _ (by omega)).trans P0'
    have B1' := (E01.2 _ (by omega)).trans B0'
    have S1' := (E01.2 _ (by omega)).trans S0'
    have lP1 := at_lt P1'
    have w1 := ow.toX.one
    have w2 := ow.toX.isSl
    have ob1 : OwnX txC 1 h6.n k1 b' 9 ops := ob0.keep fun c off n cap hv => (K1 c (by rw [n_push]; have := (ob0.blk hv).1; omega) (ob0.sep oa0 (by decide) hv)).trans (e5'.2 _ (ob0.blk hv).1)
    obtain ⟨p, p0, rfl, p2⟩ := ow
    obtain ⟨k2, hk2⟩ : ∃ k2, k2 = k1.put H.n (.cells [.sl p 0 (d ++ [s]).length (.un 35), b'] 25) := ⟨_, rfl⟩
    have F2 : Ext H.n H k2 := hk2 ▸ (F0.trans (E01.mono (by omega))).put _ (Nat.le_refl _)
    have P2' : k2.at H.n = some (.cells [.sl p 0 (d ++ [s]).length (.un 35), b'] 25) := hk2 ▸ at_put_same _ lP1
    have S2' : k2.at hw.n = _ := (hk2 ▸ at_put_ne _ (by omega) : k2.at hw.n = k1.at hw.n).trans S1'
    have R2 : k2.at p = _ := (hk2 ▸ at_put_ne _ (by omega) : k2.at p = k1.at p).trans p2
    have ob2 : OwnX txC 1 h6.n k2 b' 9 ops := hk2 ▸ ob1.putLt (by omega)
    have LP2' := ld_at (T := tabOf Tryz.prog NT0) P2'
    have lP2' := at_lt P2'
    simp only [core, zrA, zrS, zrM, zrL, zrE, reduceCtorEq, zrD, ziE, ziL, ziN, P1', lP1, b1, b2, w1, w2, ← hk2, LP2', lP2']
    refine sortF_c R2 (by rw [List.length_append]; simp) (by rw [List.length_append, List.length_singleton]; omega) hnd ?_
    rw [hsrt]
    have lR2 := at_lt R2
    obtain ⟨k3, hk3⟩ : ∃ k3, k3 = k2.put p (.cells ((insS s r.live).flatMap setC) 28) := ⟨_, rfl⟩
    have F3 : Ext H.n H k3 := hk3 ▸ F2.put _ (by omega)
    have P3' : k3.at H.n = _ := (hk3 ▸ at_put_ne _ (by omega) : k3.at H.n = k2.at H.n).trans P2'
    have S3' : k3.at hw.n = _ := (hk3 ▸ at_put_ne _ (by omega) : k3.at hw.n = k2.at hw.n).trans S2'
    have R3 : k3.at p = some (.cells ((insS s r.live).flatMap setC) 28) := hk3 ▸ at_put_same _ lR2
    have ob3 : OwnX txC 1 h6.n k3 b' 9 ops := ob2.keep fun c off n cap hv => hk3 ▸ at_put_ne _ fun hh => by
      obtain ⟨-, -, l, hl⟩ := ob2.blk hv
      rw [← hh, R2] at hl
      cases hl
    have LP3' := ld_at (T := tabOf Tryz.prog NT0) P3'
    have lP3' := at_lt P3'
    have lS3' := at_lt S3'
    obtain ⟨k4, hk4⟩ : ∃ k4, k4 = k3.put hw.n (.cells [.sl p 0 (d ++ [s]).length (.un 35), b'] 25) := ⟨_, rfl⟩
    have F4 : Ext H.n H k4 := hk4 ▸ F3.put _ (by omega)
    have S4' : k4.at hw.n = some (.cells [.sl p 0 (d ++ [s]).length (.un 35), b'] 25) := hk4 ▸ at_put_same _ lS3'
    have R4 : k4.at p = _ := (hk4 ▸ at_put_ne _ (by omega) : k4.at p = k3.at p).trans R3
    have ob4 : OwnX txC 1 h6.n k4 b' 9 ops := hk4 ▸ ob3.putLt (by omega)
    have LS4 := ld_at (T := tabOf Tryz.prog NT0) S4'
    have lS4' := at_lt S4'
    simp only [core, zrA, zrS, zrM, zrL, zrE, reduceCtorEq, zrD, ziE, ziL, ziN, ← hk3, LP3', lP3', b1, b2, w1, w2, S3', lS3', ← hk4, LS4, lS4']
    rw [hkn]
    exact ⟨F4, _, rfl, _, b', rfl, .inr (.inr ⟨p, [], by omega, by rw [← hsrt]; unfold srtS; rw [(List.mergeSort_perm _ _).length_eq], by rw [List.append_nil]; exact R4⟩), ob4.mono (by omega)⟩
end Go.Proofs.YtdcmfchodooolaaGreatDoor.Ex
end

section

set_option linter.unusedSimpArgs false
set_option linter.unusedVariables false
set_option maxRecDepth 10000
namespace Go.Proofs.YtdcmfchodooolaaGreatDoor.Ex
open Go
theorem pur_equalIn_str (d : Nat) (t : TypeId) (a : ByteArray) (h : Tryz.prog.underlying t = some .string) : pur Tryz.prog (Op.equalIn (d + 1) t (.string a) (.string a)) = some (.ok true) := by
  have : (a == a) = true := by
    obtain ⟨⟨l⟩⟩ := a
    first | (show (l.toArray == l.toArray) = true; simp; done) | (show ((⟨l.toArray⟩ : ByteArray).toList == (⟨l.toArray⟩ : ByteArray).toList) = true; simp)
  simp only [Op.equalIn, pur_bind, pur_und h]
  rw [this]
  rfl
theorem pur_sha (d : Nat) (s : Fin 32 → Int) : pur Tryz.prog (Op.equalIn (d + 1 + 1) 26 (.agg #[.int .u8 (s 0), .int .u8 (s 1), .int .u8 (s 2), .int .u8 (s 3), .int .u8 (s 4), .int .u8 (s 5), .int .u8 (s 6), .int .u8 (s 7), .int .u8 (s 8), .int .u8 (s 9), .int .u8 (s 10), .int .u8 (s 11), .int .u8 (s 12), .int .u8 (s 13), .int .u8 (s 14), .int .u8 (s 15), .int .u8 (s 16), .int .u8 (s 17), .int .u8 (s 18), .int .u8 (s 19), .int .u8 (s 20), .int .u8 (s 21), .int .u8 (s 22), .int .u8 (s 23), .int .u8 (s 24), .int .u8 (s 25), .int .u8 (s 26), .int .u8 (s 27), .int .u8 (s 28), .int .u8 (s 29), .int .u8 (s 30), .int .u8 (s 31)]) (.agg #[.int .u8 (s 0), .int .u8 (s 1), .int .u8 (s 2), .int .u8 (s 3), .int .u8 (s 4), .int .u8 (s 5), .int .u8 (s 6), .int .u8 (s 7), .int .u8 (s 8), .int .u8 (s 9), .int .u8 (s 10), .int .u8 (s 11), .int .u8 (s 12), .int .u8 (s 13), .int .u8 (s 14), .int .u8 (s 15), .int .u8 (s 16), .int .u8 (s 17), .int .u8 (s 18), .int .u8 (s 19), .int .u8 (s 20), .int .u8 (s 21), .int .u8 (s 22), .int .u8 (s 23), .int .u8 (s 24), .int .u8 (s 25), .int .u8 (s 26), .int .u8 (s 27), .int .u8 (s 28), .int .u8 (s 29), .int .u8 (s 30), .int .u8 (s 31)])) = some (.ok true) := by
  have hu : Tryz.prog.underlying 26 = some (.array 32 5) := Tryz.underlying26
  have hs : pur Tryz.prog (sizeOf 5) = some (.ok 1) := by kernel_rfl
  have p0 : pur Tryz.prog (part 5 #[.int .u8 (s 0), .int .u8 (s 1), .int .u8 (s 2), .int .u8 (s 3), .int .u8 (s 4), .int .u8 (s 5), .int .u8 (s 6), .int .u8 (s 7), .int .u8 (s 8), .int .u8 (s 9), .int .u8 (s 10), .int .u8 (s 11), .int .u8 (s 12), .int .u8 (s 13), .int .u8 (s 14), .int .u8 (s 15), .int .u8 (s 16), .int .u8 (s 17), .int .u8 (s 18), .int .u8 (s 19), .int .u8 (s 20), .int .u8 (s 21), .int .u8 (s 22), .int .u8 (s 23), .int .u8 (s 24), .int .u8 (s 25), .int .u8 (s 26), .int .u8 (s 27), .int .u8 (s 28), .int .u8 (s 29), .int .u8 (s 30), .int .u8 (s 31)] 0) = some (.ok (.int .u8 (s 0))) := by kernel_rfl
  have p1 : pur Tryz.prog (part 5 #[.int .u8 (s 0), .int .u8 (s 1), .int .u8 (s 2), .int .u8 (s 3), .int .u8 (s 4), .int .u8 (s 5), .int .u8 (s 6), .int .u8 (s 7), .int .u8 (s 8), .int .u8 (s 9), .int .u8 (s 10), .int .u8 (s 11), .int .u8 (s 12), .int .u8 (s 13), .int .u8 (s 14), .int .u8 (s 15), .int .u8 (s 16), .int .u8 (s 17), .int .u8 (s 18), .int .u8 (s 19), .int .u8 (s 20), .int .u8 (s 21), .int .u8 (s 22), .int .u8 (s 23), .int .u8 (s 24), .int .u8 (s 25), .int .u8 (s 26), .int .u8 (s 27), .int .u8 (s 28), .int .u8 (s 29), .int .u8 (s 30), .int .u8 (s 31)] 1) = some (.ok (.int .u8 (s 1))) := by kernel_rfl
  have p2 : pur Tryz.prog (part 5 #[.int .u8 (s 0), .int .u8 (s 1), .int .u8 (s 2), .int .u8 (s 3), .int .u8 (s 4), .int .u8 (s 5), .int .u8 (s 6), .int .u8 (s 7), .int .u8 (s 8), .int .u8 (s 9), .int .u8 (s 10), .int .u8 (s 11), .int .u8 (s 12), .int .u8 (s 13), .int .u8 (s 14), .int .u8 (s 15), .int .u8 (s 16), .int .u8 (s 17), .int .u8 (s 18), .int .u8 (s 19), .int .u8 (s 20), .int .u8 (s 21), .int .u8 (s 22), .int .u8 (s 23), .int .u8 (s 24), .int .u8 (s 25), .int .u8 (s 26), .int .u8 (s 27), .int .u8 (s 28), .int .u8 (s 29), .int .u8 (s 30), .int .u8 (s 31)] 2) = some (.ok (.int .u8 (s 2))) := by kernel_rfl
  have p3 : pur Tryz.prog (part 5 #[.int .u8 (s 0), .int .u8 (s 1), .int .u8 (s 2), .int .u8 (s 3), .int .u8 (s 4), .int .u8 (s 5), .int .u8 (s 6), .int .u8 (s 7), .int .u8 (s 8), .int .u8 (s 9), .int .u8 (s 10), .int .u8 (s 11), .int .u8 (s 12), .int .u8 (s 13), .int .u8 (s 14), .int .u8 (s 15), .int .u8 (s 16), .int .u8 (s 17), .int .u8 (s 18), .int .u8 (s 19), .int .u8 (s 20), .int .u8 (s 21), .int .u8 (s 22), .int .u8 (s 23), .int .u8 (s 24), .int .u8 (s 25), .int .u8 (s 26), .int .u8 (s 27), .int .u8 (s 28), .int .u8 (s 29), .int .u8 (s 30), .int .u8 (s 31)] 3) = some (.ok (.int .u8 (s 3))) := by kernel_rfl
  have p4 : pur Tryz.prog (part 5 #[.int .u8 (s 0), .int .u8 (s 1), .int .u8 (s 2), .int .u8 (s 3), .int .u8 (s 4), .int .u8 (s 5), .int .u8 (s 6), .int .u8 (s 7), .int .u8 (s 8), .int .u8 (s 9), .int .u8 (s 10), .int .u8 (s 11), .int .u8 (s 12), .int .u8 (s 13), .int .u8 (s 14), .int .u8 (s 15), .int .u8 (s 16), .int .u8 (s 17), .int .u8 (s 18), .int .u8 (s 19), .int .u8 (s 20), .int .u8 (s 21), .int .u8 (s 22), .int .u8 (s 23), .int .u8 (s 24), .int .u8 (s 25), .int .u8 (s 26), .int .u8 (s 27), .int .u8 (s 28), .int .u8 (s 29), .int .u8 (s 30), .int .u8 (s 31)] 4) = some (.ok (.int .u8 (s 4))) := by kernel_rfl
  have p5 : pur Tryz.prog (part 5 #[.int .u8 (s 0), .int .u8 (s 1), .int .u8 (s 2), .int .u8 (s 3), .int .u8 (s 4), .int .u8 (s 5), .int .u8 (s 6), .int .u8 (s 7), .int .u8 (s 8), .int .u8 (s 9), .int .u8 (s 10), .int .u8 (s 11), .int .u8 (s 12), .int .u8 (s 13), .int .u8 (s 14), .int .u8 (s 15), .int .u8 (s 16), .int .u8 (s 17), .int .u8 (s 18), .int .u8 (s 19), .int .u8 (s 20), .int .u8 (s 21), .int .u8 (s 22), .int .u8 (s 23), .int .u8 (s 24), .int .u8 (s 25), .int .u8 (s 26), .int .u8 (s 27), .int .u8 (s 28), .int .u8 (s 29), .int .u8 (s 30), .int .u8 (s 31)] 5) = some (.ok (.int .u8 (s 5))) := by kernel_rfl
  have p6 : pur Tryz.prog (part 5 #[.int .u8 (s 0), .int .u8 (s 1), .int .u8 (s 2), .int .u8 (s 3), .int .u8 (s 4), .int .u8 (s 5), .int .u8 (s 6), .int .u8 (s 7), .int .u8 (s 8), .int .u8 (s 9), .int .u8 (s 10), .int .u8 (s 11), .int .u8 (s 12), .int .u8 (s 13), .int .u8 (s 14), .int .u8 (s 15), .int .u8 (s 16), .int .u8 (s 17), .int .u8 (s 18), .int .u8 (s 19), .int .u8 (s 20), .int .u8 (s 21), .int .u8 (s 22), .int .u8 (s 23), .int .u8 (s 24), .int .u8 (s 25), .int .u8 (s 26), .int .u8 (s 27), .int .u8 (s 28), .int .u8 (s 29), .int .u8 (s 30), .int .u8 (s 31)] 6) = some (.ok (.int .u8 (s 6))) := by kernel_rfl
  have p7 : pur Tryz.prog (part 5 #[.int .u8 (s 0), .int .u8 (s 1), .int .u8 (s 2), .int .u8 (s 3), .int .u8 (s 4), .int .u8 (s 5), .int .u8 (s 6), .int .u8 (s 7), .int .u8 (s 8), .int .u8 (s 9), .int .u8 (s 10), .int .u8 (s 11), .int .u8 (s 12), .int .u8 (s 13), .int .u8 (s 14), .int .u8 (s 15), .int .u8 (s 16), .int .u8 (s 17), .int .u8 (s 18), .int .u8 (s 19), .int .u8 (s 20), .int .u8 (s 21), .int .u8 (s 22), .int .u8 (s 23), .int .u8 (s 24), .int .u8 (s 25), .int .u8 (s 26), .int .u8 (s 27), .int .u8 (s 28), .int .u8 (s 29), .int .u8 (s 30), .int .u8 (s 31)] 7) = some (.ok (.int .u8 (s 7))) := by kernel_rfl
  have p8 : pur Tryz.prog (part 5 #[.int .u8 (s 0), .int .u8 (s 1), .int .u8 (s 2), .int .u8 (s 3), .int .u8 (s 4), .int .u8 (s 5), .int .u8 (s 6), .int .u8 (s 7), .int .u8 (s 8), .int .u8 (s 9), .int .u8 (s 10), .int .u8 (s 11), .int .u8 (s 12), .int .u8 (s 13), .int .u8 (s 14), .int .u8 (s 15), .int .u8 (s 16), .int .u8 (s 17), .int .u8 (s 18), .int .u8 (s 19), .int .u8 (s 20), .int .u8 (s 21), .int .u8 (s 22), .int .u8 (s 23), .int .u8 (s 24), .int .u8 (s 25), .int .u8 (s 26), .int .u8 (s 27), .int .u8 (s 28), .int .u8 (s 29), .int .u8 (s 30), .int .u8 (s 31)] 8) = some (.ok (.int .u8 (s 8))) := by kernel_rfl
  have p9 : pur Tryz.prog (part 5 #[.int .u8 (s 0), .int .u8 (s 1), .int .u8 (s 2), .int .u8 (s 3), .int .u8 (s 4), .int .u8 (s 5), .int .u8 (s 6), .int .u8 (s 7), .int .u8 (s 8), .int .u8 (s 9), .int .u8 (s 10), .int .u8 (s 11), .int .u8 (s 12), .int .u8 (s 13), .int .u8 (s 14), .int .u8 (s 15), .int .u8 (s 16), .int .u8 (s 17), .int .u8 (s 18), .int .u8 (s 19), .int .u8 (s 20), .int .u8 (s 21), .int .u8 (s 22), .int .u8 (s 23), .int .u8 (s 24), .int .u8 (s 25), .int .u8 (s 26), .int .u8 (s 27), .int .u8 (s 28), .int .u8 (s 29), .int .u8 (s 30), .int .u8 (s 31)] 9) = some (.ok (.int .u8 (s 9))) := by kernel_rfl
  have p10 : pur Tryz.prog (part 5 #[.int .u8 (s 0), .int .u8 (s 1), .int .u8 (s 2), .int .u8 (s 3), .int .u8 (s 4), .int .u8 (s 5), .int .u8 (s 6), .int .u8 (s 7), .int .u8 (s 8), .int .u8 (s 9), .int .u8 (s 10), .int .u8 (s 11), .int .u8 (s 12), .int .u8 (s 13), .int .u8 (s 14), .int .u8 (s 15), .int .u8 (s 16), .int .u8 (s 17), .int .u8 (s 18), .int .u8 (s 19), .int .u8 (s 20), .int .u8 (s 21), .int .u8 (s 22), .int .u8 (s 23), .int .u8 (s 24), .int .u8 (s 25), .int .u8 (s 26), .int .u8 (s 27), .int .u8 (s 28), .int .u8 (s 29), .int .u8 (s 30), .int .u8 (s 31)] 10) = some (.ok (.int .u8 (s 10))) := by kernel_rfl
  have p11 : pur Tryz.prog (part 5 #[.int .u8 (s 0), .int .u8 (s 1), .int .u8 (s 2), .int .u8 (s 3), .int .u8 (s 4), .int .u8 (s 5), .int .u8 (s 6), .int .u8 (s 7), .int .u8 (s 8), .int .u8 (s 9), .int .u8 (s 10), .int .u8 (s 11), .int .u8 (s 12), .int .u8 (s 13), .int .u8 (s 14), .int .u8 (s 15), .int .u8 (s 16), .int .u8 (s 17), .int .u8 (s 18), .int .u8 (s 19), .int .u8 (s 20), .int .u8 (s 21), .int .u8 (s 22), .int .u8 (s 23), .int .u8 (s 24), .int .u8 (s 25), .int .u8 (s 26), .int .u8 (s 27), .int .u8 (s 28), .int .u8 (s 29), .int .u8 (s 30), .int .u8 (s 31)] 11) = some (.ok (.int .u8 (s 11))) := by kernel_rfl
  have p12 : pur Tryz.prog (part 5 #[.int .u8 (s 0), .int .u8 (s 1), .int .u8 (s 2), .int .u8 (s 3), .int .u8 (s 4), .int .u8 (s 5), .int .u8 (s 6), .int .u8 (s 7), .int .u8 (s 8), .int .u8 (s 9), .int .u8 (s 10), .int .u8 (s 11), .int .u8 (s 12), .int .u8 (s 13), .int .u8 (s 14), .int .u8 (s 15), .int .u8 (s 16), .int .u8 (s 17), .int .u8 (s 18), .int .u8 (s 19), .int .u8 (s 20), .int .u8 (s 21), .int .u8 (s 22), .int .u8 (s 23), .int .u8 (s 24), .int .u8 (s 25), .int .u8 (s 26), .int .u8 (s 27), .int .u8 (s 28), .int .u8 (s 29), .int .u8 (s 30), .int .u8 (s 31)] 12) = some (.ok (.int .u8 (s 12))) := by kernel_rfl
  have p13 : pur Tryz.prog (part 5 #[.int .u8 (s 0), .int .u8 (s 1), .int .u8 (s 2), .int .u8 (s 3), .int .u8 (s 4), .int .u8 (s 5), .int .u8 (s 6), .int .u8 (s 7), .int .u8 (s 8), .int .u8 (s 9), .int .u8 (s 10), .int .u8 (s 11), .int .u8 (s 12), .int .u8 (s 13), .int .u8 (s 14), .int .u8 (s 15), .int .u8 (s 16), .int .u8 (s 17), .int .u8 (s 18), .int .u8 (s 19), .int .u8 (s 20), .int .u8 (s 21), .int .u8 (s 22), .int .u8 (s 23), .int .u8 (s 24), .int .u8 (s 25), .int .u8 (s 26), .int .u8 (s 27), .int .u8 (s 28), .int .u8 (s 29), .int .u8 (s 30), .int .u8 (s 31)] 13) = some (.ok (.int .u8 (s 13))) := by kernel_rfl
  have p14 : pur Tryz.prog (part 5 #[.int .u8 (s 0), .int .u8 (s 1), .int .u8 (s 2), .int .u8 (s 3), .int .u8 (s 4), .int .u8 (s 5), .int .u8 (s 6), .int .u8 (s 7), .int .u8 (s 8), .int .u8 (s 9), .int .u8 (s 10), .int .u8 (s 11), .int .u8 (s 12), .int .u8 (s 13), .int .u8 (s 14), .int .u8 (s 15), .int .u8 (s 16), .int .u8 (s 17), .int .u8 (s 18), .int .u8 (s 19), .int .u8 (s 20), .int .u8 (s 21), .int .u8 (s 22), .int .u8 (s 23), .int .u8 (s 24), .int .u8 (s 25), .int .u8 (s 26), .int .u8 (s 27), .int .u8 (s 28), .int .u8 (s 29), .int .u8 (s 30), .int .u8 (s 31)] 14) = some (.ok (.int .u8 (s 14))) := by kernel_rfl
  have p15 : pur Tryz.prog (part 5 #[.int .u8 (s 0), .int .u8 (s 1), .int .u8 (s 2), .int .u8 (s 3), .int .u8 (s 4), .int .u8 (s 5), .int .u8 (s 6), .int .u8 (s 7), .int .u8 (s 8), .int .u8 (s 9), .int .u8 (s 10), .int .u8 (s 11), .int .u8 (s 12), .int .u8 (s 13), .int .u8 (s 14), .int .u8 (s 15), .int .u8 (s 16), .int .u8 (s 17), .int .u8 (s 18), .int .u8 (s 19), .int .u8 (s 20), .int .u8 (s 21), .int .u8 (s 22), .int .u8 (s 23), .int .u8 (s 24), .int .u8 (s 25), .int .u8 (s 26), .int .u8 (s 27), .int .u8 (s 28), .int .u8 (s 29), .int .u8 (s 30), .int .u8 (s 31)] 15) = some (.ok (.int .u8 (s 15))) := by kernel_rfl
  have p16 : pur Tryz.prog (part 5 #[.int .u8 (s 0), .int .u8 (s 1), .int .u8 (s 2), .int .u8 (s 3), .int .u8 (s 4), .int .u8 (s 5), .int .u8 (s 6), .int .u8 (s 7), .int .u8 (s 8), .int .u8 (s 9), .int .u8 (s 10), .int .u8 (s 11), .int .u8 (s 12), .int .u8 (s 13), .int .u8 (s 14), .int .u8 (s 15), .int .u8 (s 16), .int .u8 (s 17), .int .u8 (s 18), .int .u8 (s 19), .int .u8 (s 20), .int .u8 (s 21), .int .u8 (s 22), .int .u8 (s 23), .int .u8 (s 24), .int .u8 (s 25), .int .u8 (s 26), .int .u8 (s 27), .int .u8 (s 28), .int .u8 (s 29), .int .u8 (s 30), .int .u8 (s 31)] 16) = some (.ok (.int .u8 (s 16))) := by kernel_rfl
  have p17 : pur Tryz.prog (part 5 #[.int .u8 (s 0), .int .u8 (s 1), .int .u8 (s 2), .int .u8 (s 3), .int .u8 (s 4), .int .u8 (s 5), .int .u8 (s 6), .int .u8 (s 7), .int .u8 (s 8), .int .u8 (s 9), .int .u8 (s 10), .int .u8 (s 11), .int .u8 (s 12), .int .u8 (s 13), .int .u8 (s 14), .int .u8 (s 15), .int .u8 (s 16), .int .u8 (s 17), .int .u8 (s 18), .int .u8 (s 19), .int .u8 (s 20), .int .u8 (s 21), .int .u8 (s 22), .int .u8 (s 23), .int .u8 (s 24), .int .u8 (s 25), .int .u8 (s 26), .int .u8 (s 27), .int .u8 (s 28), .int .u8 (s 29), .int .u8 (s 30), .int .u8 (s 31)] 17) = some (.ok (.int .u8 (s 17))) := by kernel_rfl
  have p18 : pur Tryz.prog (part 5 #[.int .u8 (s 0), .int .u8 (s 1), .int .u8 (s 2), .int .u8 (s 3), .int .u8 (s 4), .int .u8 (s 5), .int .u8 (s 6), .int .u8 (s 7), .int .u8 (s 8), .int .u8 (s 9), .int .u8 (s 10), .int .u8 (s 11), .int .u8 (s 12), .int .u8 (s 13), .int .u8 (s 14), .int .u8 (s 15), .int .u8 (s 16), .int .u8 (s 17), .int .u8 (s 18), .int .u8 (s 19), .int .u8 (s 20), .int .u8 (s 21), .int .u8 (s 22), .int .u8 (s 23), .int .u8 (s 24), .int .u8 (s 25), .int .u8 (s 26), .int .u8 (s 27), .int .u8 (s 28), .int .u8 (s 29), .int .u8 (s 30), .int .u8 (s 31)] 18) = some (.ok (.int .u8 (s 18))) := by kernel_rfl
  have p19 : pur Tryz.prog (part 5 #[.int .u8 (s 0), .int .u8 (s 1), .int .u8 (s 2), .int .u8 (s 3), .int .u8 (s 4), .int .u8 (s 5), .int .u8 (s 6), .int .u8 (s 7), .int .u8 (s 8), .int .u8 (s 9), .int .u8 (s 10), .int .u8 (s 11), .int .u8 (s 12), .int .u8 (s 13), .int .u8 (s 14), .int .u8 (s 15), .int .u8 (s 16), .int .u8 (s 17), .int .u8 (s 18), .int .u8 (s 19), .int .u8 (s 20), .int .u8 (s 21), .int .u8 (s 22), .int .u8 (s 23), .int .u8 (s 24), .int .u8 (s 25), .int .u8 (s 26), .int .u8 (s 27), .int .u8 (s 28), .int .u8 (s 29), .int .u8 (s 30), .int .u8 (s 31)] 19) = some (.ok (.int .u8 (s 19))) := by kernel_rfl
  have p20 : pur Tryz.prog (part 5 #[.int .u8 (s 0), .int .u8 (s 1), .int .u8 (s 2), .int .u8 (s 3), .int .u8 (s 4), .int .u8 (s 5), .int .u8 (s 6), .int .u8 (s 7), .int .u8 (s 8), .int .u8 (s 9), .int .u8 (s 10), .int .u8 (s 11), .int .u8 (s 12), .int .u8 (s 13), .int .u8 (s 14), .int .u8 (s 15), .int .u8 (s 16), .int .u8 (s 17), .int .u8 (s 18), .int .u8 (s 19), .int .u8 (s 20), .int .u8 (s 21), .int .u8 (s 22), .int .u8 (s 23), .int .u8 (s 24), .int .u8 (s 25), .int .u8 (s 26), .int .u8 (s 27), .int .u8 (s 28), .int .u8 (s 29), .int .u8 (s 30), .int .u8 (s 31)] 20) = some (.ok (.int .u8 (s 20))) := by kernel_rfl
  have p21 : pur Tryz.prog (part 5 #[.int .u8 (s 0), .int .u8 (s 1), .int .u8 (s 2), .int .u8 (s 3), .int .u8 (s 4), .int .u8 (s 5), .int .u8 (s 6), .int .u8 (s 7), .int .u8 (s 8), .int .u8 (s 9), .int .u8 (s 10), .int .u8 (s 11), .int .u8 (s 12), .int .u8 (s 13), .int .u8 (s 14), .int .u8 (s 15), .int .u8 (s 16), .int .u8 (s 17), .int .u8 (s 18), .int .u8 (s 19), .int .u8 (s 20), .int .u8 (s 21), .int .u8 (s 22), .int .u8 (s 23), .int .u8 (s 24), .int .u8 (s 25), .int .u8 (s 26), .int .u8 (s 27), .int .u8 (s 28), .int .u8 (s 29), .int .u8 (s 30), .int .u8 (s 31)] 21) = some (.ok (.int .u8 (s 21))) := by kernel_rfl
  have p22 : pur Tryz.prog (part 5 #[.int .u8 (s 0), .int .u8 (s 1), .int .u8 (s 2), .int .u8 (s 3), .int .u8 (s 4), .int .u8 (s 5), .int .u8 (s 6), .int .u8 (s 7), .int .u8 (s 8), .int .u8 (s 9), .int .u8 (s 10), .int .u8 (s 11), .int .u8 (s 12), .int .u8 (s 13), .int .u8 (s 14), .int .u8 (s 15), .int .u8 (s 16), .int .u8 (s 17), .int .u8 (s 18), .int .u8 (s 19), .int .u8 (s 20), .int .u8 (s 21), .int .u8 (s 22), .int .u8 (s 23), .int .u8 (s 24), .int .u8 (s 25), .int .u8 (s 26), .int .u8 (s 27), .int .u8 (s 28), .int .u8 (s 29), .int .u8 (s 30), .int .u8 (s 31)] 22) = some (.ok (.int .u8 (s 22))) := by kernel_rfl
  have p23 : pur Tryz.prog (part 5 #[.int .u8 (s 0), .int .u8 (s 1), .int .u8 (s 2), .int .u8 (s 3), .int .u8 (s 4), .int .u8 (s 5), .int .u8 (s 6), .int .u8 (s 7), .int .u8 (s 8), .int .u8 (s 9), .int .u8 (s 10), .int .u8 (s 11), .int .u8 (s 12), .int .u8 (s 13), .int .u8 (s 14), .int .u8 (s 15), .int .u8 (s 16), .int .u8 (s 17), .int .u8 (s 18), .int .u8 (s 19), .int .u8 (s 20), .int .u8 (s 21), .int .u8 (s 22), .int .u8 (s 23), .int .u8 (s 24), .int .u8 (s 25), .int .u8 (s 26), .int .u8 (s 27), .int .u8 (s 28), .int .u8 (s 29), .int .u8 (s 30), .int .u8 (s 31)] 23) = some (.ok (.int .u8 (s 23))) := by kernel_rfl
  have p24 : pur Tryz.prog (part 5 #[.int .u8 (s 0), .int .u8 (s 1), .int .u8 (s 2), .int .u8 (s 3), .int .u8 (s 4), .int .u8 (s 5), .int .u8 (s 6), .int .u8 (s 7), .int .u8 (s 8), .int .u8 (s 9), .int .u8 (s 10), .int .u8 (s 11), .int .u8 (s 12), .int .u8 (s 13), .int .u8 (s 14), .int .u8 (s 15), .int .u8 (s 16), .int .u8 (s 17), .int .u8 (s 18), .int .u8 (s 19), .int .u8 (s 20), .int .u8 (s 21), .int .u8 (s 22), .int .u8 (s 23), .int .u8 (s 24), .int .u8 (s 25), .int .u8 (s 26), .int .u8 (s 27), .int .u8 (s 28), .int .u8 (s 29), .int .u8 (s 30), .int .u8 (s 31)] 24) = some (.ok (.int .u8 (s 24))) := by kernel_rfl
  have p25 : pur Tryz.prog (part 5 #[.int .u8 (s 0), .int .u8 (s 1), .int .u8 (s 2), .int .u8 (s 3), .int .u8 (s 4), .int .u8 (s 5), .int .u8 (s 6), .int .u8 (s 7), .int .u8 (s 8), .int .u8 (s 9), .int .u8 (s 10), .int .u8 (s 11), .int .u8 (s 12), .int .u8 (s 13), .int .u8 (s 14), .int .u8 (s 15), .int .u8 (s 16), .int .u8 (s 17), .int .u8 (s 18), .int .u8 (s 19), .int .u8 (s 20), .int .u8 (s 21), .int .u8 (s 22), .int .u8 (s 23), .int .u8 (s 24), .int .u8 (s 25), .int .u8 (s 26), .int .u8 (s 27), .int .u8 (s 28), .int .u8 (s 29), .int .u8 (s 30), .int .u8 (s 31)] 25) = some (.ok (.int .u8 (s 25))) := by kernel_rfl
  have p26 : pur Tryz.prog (part 5 #[.int .u8 (s 0), .int .u8 (s 1), .int .u8 (s 2), .int .u8 (s 3), .int .u8 (s 4), .int .u8 (s 5), .int .u8 (s 6), .int .u8 (s 7), .int .u8 (s 8), .int .u8 (s 9), .int .u8 (s 10), .int .u8 (s 11), .int .u8 (s 12), .int .u8 (s 13), .int .u8 (s 14), .int .u8 (s 15), .int .u8 (s 16), .int .u8 (s 17), .int .u8 (s 18), .int .u8 (s 19), .int .u8 (s 20), .int .u8 (s 21), .int .u8 (s 22), .int .u8 (s 23), .int .u8 (s 24), .int .u8 (s 25), .int .u8 (s 26), .int .u8 (s 27), .int .u8 (s 28), .int .u8 (s 29), .int .u8 (s 30), .int .u8 (s 31)] 26) = some (.ok (.int .u8 (s 26))) := by kernel_rfl
  have p27 : pur Tryz.prog (part 5 #[.int .u8 (s 0), .int .u8 (s 1), .int .u8 (s 2), .int .u8 (s 3), .int .u8 (s 4), .int .u8 (s 5), .int .u8 (s 6), .int .u8 (s 7), .int .u8 (s 8), .int .u8 (s 9), .int .u8 (s 10), .int .u8 (s 11), .int .u8 (s 12), .int .u8 (s 13), .int .u8 (s 14), .int .u8 (s 15), .int .u8 (s 16), .int .u8 (s 17), .int .u8 (s 18), .int .u8 (s 19), .int .u8 (s 20), .int .u8 (s 21), .int .u8 (s 22), .int .u8 (s 23), .int .u8 (s 24), .int .u8 (s 25), .int .u8 (s 26), .int .u8 (s 27), .int .u8 (s 28), .int .u8 (s 29), .int .u8 (s 30), .int .u8 (s 31)] 27) = some (.ok (.int .u8 (s 27))) := by kernel_rfl
  have p28 : pur Tryz.prog (part 5 #[.int .u8 (s 0), .int .u8 (s 1), .int .u8 (s 2), .int .u8 (s 3), .int .u8 (s 4), .int .u8 (s 5), .int .u8 (s 6), .int .u8 (s 7), .int .u8 (s 8), .int .u8 (s 9), .int .u8 (s 10), .int .u8 (s 11), .int .u8 (s 12), .int .u8 (s 13), .int .u8 (s 14), .int .u8 (s 15), .int .u8 (s 16), .int .u8 (s 17), .int .u8 (s 18), .int .u8 (s 19), .int .u8 (s 20), .int .u8 (s 21), .int .u8 (s 22), .int .u8 (s 23), .int .u8 (s 24), .int .u8 (s 25), .int .u8 (s 26), .int .u8 (s 27), .int .u8 (s 28), .int .u8 (s 29), .int .u8 (s 30), .int .u8 (s 31)] 28) = some (.ok (.int .u8 (s 28))) := by kernel_rfl
  have p29 : pur Tryz.prog (part 5 #[.int .u8 (s 0), .int .u8 (s 1), .int .u8 (s 2), .int .u8 (s 3), .int .u8 (s 4), .int .u8 (s 5), .int .u8 (s 6), .int .u8 (s 7), .int .u8 (s 8), .int .u8 (s 9), .int .u8 (s 10), .int .u8 (s 11), .int .u8 (s 12), .int .u8 (s 13), .int .u8 (s 14), .int .u8 (s 15), .int .u8 (s 16), .int .u8 (s 17), .int .u8 (s 18), .int .u8 (s 19), .int .u8 (s 20), .int .u8 (s 21), .int .u8 (s 22), .int .u8 (s 23), .int .u8 (s 24), .int .u8 (s 25), .int .u8 (s 26), .int .u8 (s 27), .int .u8 (s 28), .int .u8 (s 29), .int .u8 (s 30), .int .u8 (s 31)] 29) = some (.ok (.int .u8 (s 29))) := by kernel_rfl
  have p30 : pur Tryz.prog (part 5 #[.int .u8 (s 0), .int .u8 (s 1), .int .u8 (s 2), .int .u8 (s 3), .int .u8 (s 4), .int .u8 (s 5), .int .u8 (s 6), .int .u8 (s 7), .int .u8 (s 8), .int .u8 (s 9), .int .u8 (s 10), .int .u8 (s 11), .int .u8 (s 12), .int .u8 (s 13), .int .u8 (s 14), .int .u8 (s 15), .int .u8 (s 16), .int .u8 (s 17), .int .u8 (s 18), .int .u8 (s 19), .int .u8 (s 20), .int .u8 (s 21), .int .u8 (s 22), .int .u8 (s 23), .int .u8 (s 24), .int .u8 (s 25), .int .u8 (s 26), .int .u8 (s 27), .int .u8 (s 28), .int .u8 (s 29), .int .u8 (s 30), .int .u8 (s 31)] 30) = some (.ok (.int .u8 (s 30))) := by kernel_rfl
  have p31 : pur Tryz.prog (part 5 #[.int .u8 (s 0), .int .u8 (s 1), .int .u8 (s 2), .int .u8 (s 3), .int .u8 (s 4), .int .u8 (s 5), .int .u8 (s 6), .int .u8 (s 7), .int .u8 (s 8), .int .u8 (s 9), .int .u8 (s 10), .int .u8 (s 11), .int .u8 (s 12), .int .u8 (s 13), .int .u8 (s 14), .int .u8 (s 15), .int .u8 (s 16), .int .u8 (s 17), .int .u8 (s 18), .int .u8 (s 19), .int .u8 (s 20), .int .u8 (s 21), .int .u8 (s 22), .int .u8 (s 23), .int .u8 (s 24), .int .u8 (s 25), .int .u8 (s 26), .int .u8 (s 27), .int .u8 (s 28), .int .u8 (s 29), .int .u8 (s 30), .int .u8 (s 31)] 31) = some (.ok (.int .u8 (s 31))) := by kernel_rfl
  have q : ∀ x : Int, pur Tryz.prog (Op.equalIn (d + 1) 5 (.int .u8 x) (.int .u8 x)) = some (.ok true) := fun x => by
    rw [pur_equalIn_int d 5 .u8 .u8 x x Tryz.underlying5]
    simp
  unfold Op.equalIn
  simp only [pur_bind, pur_und hu, hs, Std.Legacy.Range.forIn_eq_forIn_range', Std.Legacy.Range.size]
  rw [show (List.range' 0 ((32 - 0 + 1 - 1) / 1)) = [0, 1, 2, 3, 4, 5, 6, 7, 8, 9, 10, 11, 12, 13, 14, 15, 16, 17, 18, 19, 20, 21, 22, 23, 24, 25, 26, 27, 28, 29, 30, 31] from rfl]
  simp only [List.forIn_cons, List.forIn_nil, pur_bind, Nat.zero_mul, Nat.one_mul, Nat.mul_one, p0, p1, p2, p3, p4, p5, p6, p7, p8, p9, p10, p11, p12, p13, p14, p15, p16, p17, p18, p19, p20, p21, p22, p23, p24, p25, p26, p27, p28, p29, p30, p31, q, Bool.not_true, Bool.false_eq_true, if_false, pur_pure]
theorem pur_set (x : SetD) : pur Tryz.prog (Op.equal 35 (.agg #[.string ⟨x.name.toArray⟩, .string ⟨x.id.toArray⟩, .int .i64 x.size, .int .u8 (x.sha 0), .int .u8 (x.sha 1), .int .u8 (x.sha 2), .int .u8 (x.sha 3), .int .u8 (x.sha 4), .int .u8 (x.sha 5), .int .u8 (x.sha 6), .int .u8 (x.sha 7), .int .u8 (x.sha 8), .int .u8 (x.sha 9), .int .u8 (x.sha 10), .int .u8 (x.sha 11), .int .u8 (x.sha 12), .int .u8 (x.sha 13), .int .u8 (x.sha 14), .int .u8 (x.sha 15), .int .u8 (x.sha 16), .int .u8 (x.sha 17), .int .u8 (x.sha 18), .int .u8 (x.sha 19), .int .u8 (x.sha 20), .int .u8 (x.sha 21), .int .u8 (x.sha 22), .int .u8 (x.sha 23), .int .u8 (x.sha 24), .int .u8 (x.sha 25), .int .u8 (x.sha 26), .int .u8 (x.sha 27), .int .u8 (x.sha 28), .int .u8 (x.sha 29), .int .u8 (x.sha 30), .int .u8 (x.sha 31)]) (.agg #[.string ⟨x.name.toArray⟩, .string ⟨x.id.toArray⟩, .int .i64 x.size, .int .u8 (x.sha 0), .int .u8 (x.sha 1), .int .u8 (x.sha 2), .int .u8 (x.sha 3), .int .u8 (x.sha 4), .int .u8 (x.sha 5), .int .u8 (x.sha 6), .int .u8 (x.sha 7), .int .u8 (x.sha 8), .int .u8 (x.sha 9), .int .u8 (x.sha 10), .int .u8 (x.sha 11), .int .u8 (x.sha 12), .int .u8 (x.sha 13), .int .u8 (x.sha 14), .int .u8 (x.sha 15), .int .u8 (x.sha 16), .int .u8 (x.sha 17), .int .u8 (x.sha 18), .int .u8 (x.sha 19), .int .u8 (x.sha 20), .int .u8 (x.sha 21), .int .u8 (x.sha 22), .int .u8 (x.sha 23), .int .u8 (x.sha 24), .int .u8 (x.sha 25), .int .u8 (x.sha 26), .int .u8 (x.sha 27), .int .u8 (x.sha 28), .int .u8 (x.sha 29), .int .u8 (x.sha 30), .int .u8 (x.sha 31)])) = some (.ok true) := by
  show pur Tryz.prog (Op.equalIn (9999 + 1) 35 (.agg #[.string ⟨x.name.toArray⟩, .string ⟨x.id.toArray⟩, .int .i64 x.size, .int .u8 (x.sha 0), .int .u8 (x.sha 1), .int .u8 (x.sha 2), .int .u8 (x.sha 3), .int .u8 (x.sha 4), .int .u8 (x.sha 5), .int .u8 (x.sha 6), .int .u8 (x.sha 7), .int .u8 (x.sha 8), .int .u8 (x.sha 9), .int .u8 (x.sha 10), .int .u8 (x.sha 11), .int .u8 (x.sha 12), .int .u8 (x.sha 13), .int .u8 (x.sha 14), .int .u8 (x.sha 15), .int .u8 (x.sha 16), .int .u8 (x.sha 17), .int .u8 (x.sha 18), .int .u8 (x.sha 19), .int .u8 (x.sha 20), .int .u8 (x.sha 21), .int .u8 (x.sha 22), .int .u8 (x.sha 23), .int .u8 (x.sha 24), .int .u8 (x.sha 25), .int .u8 (x.sha 26), .int .u8 (x.sha 27), .int .u8 (x.sha 28), .int .u8 (x.sha 29), .int .u8 (x.sha 30), .int .u8 (x.sha 31)]) (.agg #[.string ⟨x.name.toArray⟩, .string ⟨x.id.toArray⟩, .int .i64 x.size, .int .u8 (x.sha 0), .int .u8 (x.sha 1), .int .u8 (x.sha 2), .int .u8 (x.sha 3), .int .u8 (x.sha 4), .int .u8 (x.sha 5), .int .u8 (x.sha 6), .int .u8 (x.sha 7), .int .u8 (x.sha 8), .int .u8 (x.sha 9), .int .u8 (x.sha 10), .int .u8 (x.sha 11), .int .u8 (x.sha 12), .int .u8 (x.sha 13), .int .u8 (x.sha 14), .int .u8 (x.sha 15), .int .u8 (x.sha 16), .int .u8 (x.sha 17), .int .u8 (x.sha 18), .int .u8 (x.sha 19), .int .u8 (x.sha 20), .int .u8 (x.sha 21), .int .u8 (x.sha 22), .int .u8 (x.sha 23), .int .u8 (x.sha 24), .int .u8 (x.sha 25), .int .u8 (x.sha 26), .int .u8 (x.sha 27), .int .u8 (x.sha 28), .int .u8 (x.sha 29), .int .u8 (x.sha 30), .int .u8 (x.sha 31)])) = _
  rw [pur_equalIn_struct 9999 35 _ _ (by kernel_rfl) (by kernel_rfl)]
  obtain ⟨f0, f1, f2, f3, hf, n0, n1, n2, n3, t0, t1, t2, t3, z0, z1, z2, z3⟩ : ∃ f0 f1 f2 f3 : Field, (Tryz.prog.fieldsOf 35).toList = [f0, f1, f2, f3] ∧ f0.name ≠ "_" ∧ f1.name ≠ "_" ∧ f2.name ≠ "_" ∧ f3.name ≠ "_" ∧ f0.type = 9 ∧ f1.type = 9 ∧ f2.type = 3 ∧ f3.type = 26 ∧ f0.offset = 0 ∧ f1.offset = 1 ∧ f2.offset = 2 ∧ f3.offset = 3 := by
    unfold Program.fieldsOf
    rw [Tryz.underlying35]
    exact ⟨_, _, _, _, rfl, by decide, by decide, by decide, by decide, rfl, rfl, rfl, rfl, rfl, rfl, rfl, rfl⟩
  rw [hf]
  have p0 : pur Tryz.prog (part 9 #[.string ⟨x.name.toArray⟩, .string ⟨x.id.toArray⟩, .int .i64 x.size, .int .u8 (x.sha 0), .int .u8 (x.sha 1), .int .u8 (x.sha 2), .int .u8 (x.sha 3), .int .u8 (x.sha 4), .int .u8 (x.sha 5), .int .u8 (x.sha 6), .int .u8 (x.sha 7), .int .u8 (x.sha 8), .int .u8 (x.sha 9), .int .u8 (x.sha 10), .int .u8 (x.sha 11), .int .u8 (x.sha 12), .int .u8 (x.sha 13), .int .u8 (x.sha 14), .int .u8 (x.sha 15), .int .u8 (x.sha 16), .int .u8 (x.sha 17), .int .u8 (x.sha 18), .int .u8 (x.sha 19), .int .u8 (x.sha 20), .int .u8 (x.sha 21), .int .u8 (x.sha 22), .int .u8 (x.sha 23), .int .u8 (x.sha 24), .int .u8 (x.sha 25), .int .u8 (x.sha 26), .int .u8 (x.sha 27), .int .u8 (x.sha 28), .int .u8 (x.sha 29), .int .u8 (x.sha 30), .int .u8 (x.sha 31)] 0) = some (.ok (.string ⟨x.name.toArray⟩)) := by kernel_rfl
  have p1 : pur Tryz.prog (part 9 #[.string ⟨x.name.toArray⟩, .string ⟨x.id.toArray⟩, .int .i64 x.size, .int .u8 (x.sha 0), .int .u8 (x.sha 1), .int .u8 (x.sha 2), .int .u8 (x.sha 3), .int .u8 (x.sha 4), .int .u8 (x.sha 5), .int .u8 (x.sha 6), .int .u8 (x.sha 7), .int .u8 (x.sha 8), .int .u8 (x.sha 9), .int .u8 (x.sha 10), .int .u8 (x.sha 11), .int .u8 (x.sha 12), .int .u8 (x.sha 13), .int .u8 (x.sha 14), .int .u8 (x.sha 15), .int .u8 (x.sha 16), .int .u8 (x.sha 17), .int .u8 (x.sha 18), .int .u8 (x.sha 19), .int .u8 (x.sha 20), .int .u8 (x.sha 21), .int .u8 (x.sha 22), .int .u8 (x.sha 23), .int .u8 (x.sha 24), .int .u8 (x.sha 25), .int .u8 (x.sha 26), .int .u8 (x.sha 27), .int .u8 (x.sha 28), .int .u8 (x.sha 29), .int .u8 (x.sha 30), .int .u8 (x.sha 31)] 1) = some (.ok (.string ⟨x.id.toArray⟩)) := by kernel_rfl
  have p2 : pur Tryz.prog (part 3 #[.string ⟨x.name.toArray⟩, .string ⟨x.id.toArray⟩, .int .i64 x.size, .int .u8 (x.sha 0), .int .u8 (x.sha 1), .int .u8 (x.sha 2), .int .u8 (x.sha 3), .int .u8 (x.sha 4), .int .u8 (x.sha 5), .int .u8 (x.sha 6), .int .u8 (x.sha 7), .int .u8 (x.sha 8), .int .u8 (x.sha 9), .int .u8 (x.sha 10), .int .u8 (x.sha 11), .int .u8 (x.sha 12), .int .u8 (x.sha 13), .int .u8 (x.sha 14), .int .u8 (x.sha 15), .int .u8 (x.sha 16), .int .u8 (x.sha 17), .int .u8 (x.sha 18), .int .u8 (x.sha 19), .int .u8 (x.sha 20), .int .u8 (x.sha 21), .int .u8 (x.sha 22), .int .u8 (x.sha 23), .int .u8 (x.sha 24), .int .u8 (x.sha 25), .int .u8 (x.sha 26), .int .u8 (x.sha 27), .int .u8 (x.sha 28), .int .u8 (x.sha 29), .int .u8 (x.sha 30), .int .u8 (x.sha 31)] 2) = some (.ok (.int .i64 x.size)) := by kernel_rfl
  have p3 : pur Tryz.prog (part 26 #[.string ⟨x.name.toArray⟩, .string ⟨x.id.toArray⟩, .int .i64 x.size, .int .u8 (x.sha 0), .int .u8 (x.sha 1), .int .u8 (x.sha 2), .int .u8 (x.sha 3), .int .u8 (x.sha 4), .int .u8 (x.sha 5), .int .u8 (x.sha 6), .int .u8 (x.sha 7), .int .u8 (x.sha 8), .int .u8 (x.sha 9), .int .u8 (x.sha 10), .int .u8 (x.sha 11), .int .u8 (x.sha 12), .int .u8 (x.sha 13), .int .u8 (x.sha 14), .int .u8 (x.sha 15), .int .u8 (x.sha 16), .int .u8 (x.sha 17), .int .u8 (x.sha 18), .int .u8 (x.sha 19), .int .u8 (x.sha 20), .int .u8 (x.sha 21), .int .u8 (x.sha 22), .int .u8 (x.sha 23), .int .u8 (x.sha 24), .int .u8 (x.sha 25), .int .u8 (x.sha 26), .int .u8 (x.sha 27), .int .u8 (x.sha 28), .int .u8 (x.sha 29), .int .u8 (x.sha 30), .int .u8 (x.sha 31)] 3) = some (.ok (.agg #[.int .u8 (x.sha 0), .int .u8 (x.sha 1), .int .u8 (x.sha 2), .int .u8 (x.sha 3), .int .u8 (x.sha 4), .int .u8 (x.sha 5), .int .u8 (x.sha 6), .int .u8 (x.sha 7), .int .u8 (x.sha 8), .int .u8 (x.sha 9), .int .u8 (x.sha 10), .int .u8 (x.sha 11), .int .u8 (x.sha 12), .int .u8 (x.sha 13), .int .u8 (x.sha 14), .int .u8 (x.sha 15), .int .u8 (x.sha 16), .int .u8 (x.sha 17), .int .u8 (x.sha 18), .int .u8 (x.sha 19), .int .u8 (x.sha 20), .int .u8 (x.sha 21), .int .u8 (x.sha 22), .int .u8 (x.sha 23), .int .u8 (x.sha 24), .int .u8 (x.sha 25), .int .u8 (x.sha 26), .int .u8 (x.sha 27), .int .u8 (x.sha 28), .int .u8 (x.sha 29), .int .u8 (x.sha 30), .int .u8 (x.sha 31)])) := by kernel_rfl
  have q0 := fun a => pur_equalIn_str 9998 9 a Tryz.underlying9
  have q2 : ∀ y : Int, pur Tryz.prog (Op.equalIn 9999 3 (.int .i64 y) (.int .i64 y)) = some (.ok true) := fun y => by
    rw [pur_equalIn_int 9998 3 .i64 .i64 y y Tryz.underlying3]
    simp
  have q3 := pur_sha 9997 x.sha
  simp only [Op.eqFields, n0, t0, z0, p0, n1, t1, z1, p1, n2, t2, z2, p2, n3, t3, z3, p3, ne_eq, not_false_eq_true, if_true, pur_bind, q0, q2, q3, pur_ite, pur_pure, Bool.not_true, Bool.false_eq_true, if_false]
section
variable {d : Option Tmp} {ty : TypeId} {ps : String} {af : Array Edge} {g : Option (Nat × Bool)} {f : TypeId} {t : TM} {h : AH}
theorem pur_shaT (s : Fin 32 → Int) : pur Tryz.prog (Op.equal 26 (.agg #[.int .u8 (s 0), .int .u8 (s 1), .int .u8 (s 2), .int .u8 (s 3), .int .u8 (s 4), .int .u8 (s 5), .int .u8 (s 6), .int .u8 (s 7), .int .u8 (s 8), .int .u8 (s 9), .int .u8 (s 10), .int .u8 (s 11), .int .u8 (s 12), .int .u8 (s 13), .int .u8 (s 14), .int .u8 (s 15), .int .u8 (s 16), .int .u8 (s 17), .int .u8 (s 18), .int .u8 (s 19), .int .u8 (s 20), .int .u8 (s 21), .int .u8 (s 22), .int .u8 (s 23), .int .u8 (s 24), .int .u8 (s 25), .int .u8 (s 26), .int .u8 (s 27), .int .u8 (s 28), .int .u8 (s 29), .int .u8 (s 30), .int .u8 (s 31)]) (.agg #[.int .u8 (s 0), .int .u8 (s 1), .int .u8 (s 2), .int .u8 (s 3), .int .u8 (s 4), .int .u8 (s 5), .int .u8 (s 6), .int .u8 (s 7), .int .u8 (s 8), .int .u8 (s 9), .int .u8 (s 10), .int .u8 (s 11), .int .u8 (s 12), .int .u8 (s 13), .int .u8 (s 14), .int .u8 (s 15), .int .u8 (s 16), .int .u8 (s 17), .int .u8 (s 18), .int .u8 (s 19), .int .u8 (s 20), .int .u8 (s 21), .int .u8 (s 22), .int .u8 (s 23), .int .u8 (s 24), .int .u8 (s 25), .int .u8 (s 26), .int .u8 (s 27), .int .u8 (s 28), .int .u8 (s 29), .int .u8 (s 30), .int .u8 (s 31)])) = some (.ok true) := pur_sha 9998 s
theorem a_neS (x : SetD) {i j : Nat} (hi : t.get i = .agg [.lit (.string ⟨x.name.toArray⟩), .lit (.string ⟨x.id.toArray⟩), .lit (.int .i64 x.size), .lit (.int .u8 (x.sha 0)), .lit (.int .u8 (x.sha 1)), .lit (.int .u8 (x.sha 2)), .lit (.int .u8 (x.sha 3)), .lit (.int .u8 (x.sha 4)), .lit (.int .u8 (x.sha 5)), .lit (.int .u8 (x.sha 6)), .lit (.int .u8 (x.sha 7)), .lit (.int .u8 (x.sha 8)), .lit (.int .u8 (x.sha 9)), .lit (.int .u8 (x.sha 10)), .lit (.int .u8 (x.sha 11)), .lit (.int .u8 (x.sha 12)), .lit (.int .u8 (x.sha 13)), .lit (.int .u8 (x.sha 14)), .lit (.int .u8 (x.sha 15)), .lit (.int .u8 (x.sha 16)), .lit (.int .u8 (x.sha 17)), .lit (.int .u8 (x.sha 18)), .lit (.int .u8 (x.sha 19)), .lit (.int .u8 (x.sha 20)), .lit (.int .u8 (x.sha 21)), .lit (.int .u8 (x.sha 22)), .lit (.int .u8 (x.sha 23)), .lit (.int .u8 (x.sha 24)), .lit (.int .u8 (x.sha 25)), .lit (.int .u8 (x.sha 26)), .lit (.int .u8 (x.sha 27)), .lit (.int .u8 (x.sha 28)), .lit (.int .u8 (x.sha 29)), .lit (.int .u8 (x.sha 30)), .lit (.int .u8 (x.sha 31))]) (hj : t.get j = .agg [.lit (.string ⟨x.name.toArray⟩), .lit (.string ⟨x.id.toArray⟩), .lit (.int .i64 x.size), .lit (.int .u8 (x.sha 0)), .lit (.int .u8 (x.sha 1)), .lit (.int .u8 (x.sha 2)), .lit (.int .u8 (x.sha 3)), .lit (.int .u8 (x.sha 4)), .lit (.int .u8 (x.sha 5)), .lit (.int .u8 (x.sha 6)), .lit (.int .u8 (x.sha 7)), .lit (.int .u8 (x.sha 8)), .lit (.int .u8 (x.sha 9)), .lit (.int .u8 (x.sha 10)), .lit (.int .u8 (x.sha 11)), .lit (.int .u8 (x.sha 12)), .lit (.int .u8 (x.sha 13)), .lit (.int .u8 (x.sha 14)), .lit (.int .u8 (x.sha 15)), .lit (.int .u8 (x.sha 16)), .lit (.int .u8 (x.sha 17)), .lit (.int .u8 (x.sha 18)), .lit (.int .u8 (x.sha 19)), .lit (.int .u8 (x.sha 20)), .lit (.int .u8 (x.sha 21)), .lit (.int .u8 (x.sha 22)), .lit (.int .u8 (x.sha 23)), .lit (.int .u8 (x.sha 24)), .lit (.int .u8 (x.sha 25)), .lit (.int .u8 (x.sha 26)), .lit (.int .u8 (x.sha 27)), .lit (.int .u8 (x.sha 28)), .lit (.int .u8 (x.sha 29)), .lit (.int .u8 (x.sha 30)), .lit (.int .u8 (x.sha 31))]) :
    aBinR Tryz.prog (tabOf Tryz.prog NT0) ⟨d, .binOp .neq 35 (.tmp i) (.tmp j) f, ty, ps, af, g⟩ t h .neq 35 (.tmp i) (.tmp j) = some (.val (.lit (.bool false)), h) := by
  show aBin Tryz.prog (tabOf Tryz.prog NT0) ⟨d, .binOp .neq 35 (.tmp i) (.tmp j) f, ty, ps, af, g⟩ t h .neq 35 (.tmp i) (.tmp j) = _
  have e1 : evalA t (.tmp i) = some (.agg [.lit (.string ⟨x.name.toArray⟩), .lit (.string ⟨x.id.toArray⟩), .lit (.int .i64 x.size), .lit (.int .u8 (x.sha 0)), .lit (.int .u8 (x.sha 1)), .lit (.int .u8 (x.sha 2)), .lit (.int .u8 (x.sha 3)), .lit (.int .u8 (x.sha 4)), .lit (.int .u8 (x.sha 5)), .lit (.int .u8 (x.sha 6)), .lit (.int .u8 (x.sha 7)), .lit (.int .u8 (x.sha 8)), .lit (.int .u8 (x.sha 9)), .lit (.int .u8 (x.sha 10)), .lit (.int .u8 (x.sha 11)), .lit (.int .u8 (x.sha 12)), .lit (.int .u8 (x.sha 13)), .lit (.int .u8 (x.sha 14)), .lit (.int .u8 (x.sha 15)), .lit (.int .u8 (x.sha 16)), .lit (.int .u8 (x.sha 17)), .lit (.int .u8 (x.sha 18)), .lit (.int .u8 (x.sha 19)), .lit (.int .u8 (x.sha 20)), .lit (.int .u8 (x.sha 21)), .lit (.int .u8 (x.sha 22)), .lit (.int .u8 (x.sha 23)), .lit (.int .u8 (x.sha 24)), .lit (.int .u8 (x.sha 25)), .lit (.int .u8 (x.sha 26)), .lit (.int .u8 (x.sha 27)), .lit (.int .u8 (x.sha 28)), .lit (.int .u8 (x.sha 29)), .lit (.int .u8 (x.sha 30)), .lit (.int .u8 (x.sha 31))]) := by rw [ev_tmp, hi]
  have e2 : evalA t (.tmp j) = some (.agg [.lit (.string ⟨x.name.toArray⟩), .lit (.string ⟨x.id.toArray⟩), .lit (.int .i64 x.size), .lit (.int .u8 (x.sha 0)), .lit (.int .u8 (x.sha 1)), .lit (.int .u8 (x.sha 2)), .lit (.int .u8 (x.sha 3)), .lit (.int .u8 (x.sha 4)), .lit (.int .u8 (x.sha 5)), .lit (.int .u8 (x.sha 6)), .lit (.int .u8 (x.sha 7)), .lit (.int .u8 (x.sha 8)), .lit (.int .u8 (x.sha 9)), .lit (.int .u8 (x.sha 10)), .lit (.int .u8 (x.sha 11)), .lit (.int .u8 (x.sha 12)), .lit (.int .u8 (x.sha 13)), .lit (.int .u8 (x.sha 14)), .lit (.int .u8 (x.sha 15)), .lit (.int .u8 (x.sha 16)), .lit (.int .u8 (x.sha 17)), .lit (.int .u8 (x.sha 18)), .lit (.int .u8 (x.sha 19)), .lit (.int .u8 (x.sha 20)), .lit (.int .u8 (x.sha 21)), .lit (.int .u8 (x.sha 22)), .lit (.int .u8 (x.sha 23)), .lit (.int .u8 (x.sha 24)), .lit (.int .u8 (x.sha 25)), .lit (.int .u8 (x.sha 26)), .lit (.int .u8 (x.sha 27)), .lit (.int .u8 (x.sha 28)), .lit (.int .u8 (x.sha 29)), .lit (.int .u8 (x.sha 30)), .lit (.int .u8 (x.sha 31))]) := by rw [ev_tmp, hj]
  have l1 : litEnv t (.tmp i) = .agg #[.string ⟨x.name.toArray⟩, .string ⟨x.id.toArray⟩, .int .i64 x.size, .int .u8 (x.sha 0), .int .u8 (x.sha 1), .int .u8 (x.sha 2), .int .u8 (x.sha 3), .int .u8 (x.sha 4), .int .u8 (x.sha 5), .int .u8 (x.sha 6), .int .u8 (x.sha 7), .int .u8 (x.sha 8), .int .u8 (x.sha 9), .int .u8 (x.sha 10), .int .u8 (x.sha 11), .int .u8 (x.sha 12), .int .u8 (x.sha 13), .int .u8 (x.sha 14), .int .u8 (x.sha 15), .int .u8 (x.sha 16), .int .u8 (x.sha 17), .int .u8 (x.sha 18), .int .u8 (x.sha 19), .int .u8 (x.sha 20), .int .u8 (x.sha 21), .int .u8 (x.sha 22), .int .u8 (x.sha 23), .int .u8 (x.sha 24), .int .u8 (x.sha 25), .int .u8 (x.sha 26), .int .u8 (x.sha 27), .int .u8 (x.sha 28), .int .u8 (x.sha 29), .int .u8 (x.sha 30), .int .u8 (x.sha 31)] := by unfold litEnv; rw [e1]; rfl
  have l2 : litEnv t (.tmp j) = .agg #[.string ⟨x.name.toArray⟩, .string ⟨x.id.toArray⟩, .int .i64 x.size, .int .u8 (x.sha 0), .int .u8 (x.sha 1), .int .u8 (x.sha 2), .int .u8 (x.sha 3), .int .u8 (x.sha 4), .int .u8 (x.sha 5), .int .u8 (x.sha 6), .int .u8 (x.sha 7), .int .u8 (x.sha 8), .int .u8 (x.sha 9), .int .u8 (x.sha 10), .int .u8 (x.sha 11), .int .u8 (x.sha 12), .int .u8 (x.sha 13), .int .u8 (x.sha 14), .int .u8 (x.sha 15), .int .u8 (x.sha 16), .int .u8 (x.sha 17), .int .u8 (x.sha 18), .int .u8 (x.sha 19), .int .u8 (x.sha 20), .int .u8 (x.sha 21), .int .u8 (x.sha 22), .int .u8 (x.sha 23), .int .u8 (x.sha 24), .int .u8 (x.sha 25), .int .u8 (x.sha 26), .int .u8 (x.sha 27), .int .u8 (x.sha 28), .int .u8 (x.sha 29), .int .u8 (x.sha 30), .int .u8 (x.sha 31)] := by unfold litEnv; rw [e2]; rfl
  have hl : litOp Tryz.prog ⟨d, .binOp .neq 35 (.tmp i) (.tmp j) f, ty, ps, af, g⟩ t = some (.val (.lit (.bool false))) := by
    unfold litOp
    rw [if_pos (by
      show (notSelect _ && litAll t [.tmp i, .tmp j]) = true
      simp only [litAll, e1, e2]
      rfl)]
    have : pur Tryz.prog (execOp (litEnv t) ⟨d, .binOp .neq 35 (.tmp i) (.tmp j) f, ty, ps, af, g⟩) = some (.ok (.value (.bool false))) := by
      show pur Tryz.prog (do pure (Next.value (← (do eqGuard .neq 35 (.tmp i) (.tmp j) (litEnv t (.tmp i)) (litEnv t (.tmp j)); binOp .neq 35 (litEnv t (.tmp i)) (litEnv t (.tmp j)))))) = _
      rw [l1, l2]
      have hg : pur Tryz.prog (eqGuard .neq 35 (.tmp i) (.tmp j) (.agg #[.string ⟨x.name.toArray⟩, .string ⟨x.id.toArray⟩, .int .i64 x.size, .int .u8 (x.sha 0), .int .u8 (x.sha 1), .int .u8 (x.sha 2), .int .u8 (x.sha 3), .int .u8 (x.sha 4), .int .u8 (x.sha 5), .int .u8 (x.sha 6), .int .u8 (x.sha 7), .int .u8 (x.sha 8), .int .u8 (x.sha 9), .int .u8 (x.sha 10), .int .u8 (x.sha 11), .int .u8 (x.sha 12), .int .u8 (x.sha 13), .int .u8 (x.sha 14), .int .u8 (x.sha 15), .int .u8 (x.sha 16), .int .u8 (x.sha 17), .int .u8 (x.sha 18), .int .u8 (x.sha 19), .int .u8 (x.sha 20), .int .u8 (x.sha 21), .int .u8 (x.sha 22), .int .u8 (x.sha 23), .int .u8 (x.sha 24), .int .u8 (x.sha 25), .int .u8 (x.sha 26), .int .u8 (x.sha 27), .int .u8 (x.sha 28), .int .u8 (x.sha 29), .int .u8 (x.sha 30), .int .u8 (x.sha 31)]) (.agg #[.string ⟨x.name.toArray⟩, .string ⟨x.id.toArray⟩, .int .i64 x.size, .int .u8 (x.sha 0), .int .u8 (x.sha 1), .int .u8 (x.sha 2), .int .u8 (x.sha 3), .int .u8 (x.sha 4), .int .u8 (x.sha 5), .int .u8 (x.sha 6), .int .u8 (x.sha 7), .int .u8 (x.sha 8), .int .u8 (x.sha 9), .int .u8 (x.sha 10), .int .u8 (x.sha 11), .int .u8 (x.sha 12), .int .u8 (x.sha 13), .int .u8 (x.sha 14), .int .u8 (x.sha 15), .int .u8 (x.sha 16), .int .u8 (x.sha 17), .int .u8 (x.sha 18), .int .u8 (x.sha 19), .int .u8 (x.sha 20), .int .u8 (x.sha 21), .int .u8 (x.sha 22), .int .u8 (x.sha 23), .int .u8 (x.sha 24), .int .u8 (x.sha 25), .int .u8 (x.sha 26), .int .u8 (x.sha 27), .int .u8 (x.sha 28), .int .u8 (x.sha 29), .int .u8 (x.sha 30), .int .u8 (x.sha 31)])) = some (.ok ()) := by
        have hm : Tryz.prog.eqGuardType Tryz.prog.depth 35 = false := by kernel_rfl
        simp [eqGuard, pur_bind, pur_program, hm, pur_pure]
      have hb : pur Tryz.prog (binOp .neq 35 (.agg #[.string ⟨x.name.toArray⟩, .string ⟨x.id.toArray⟩, .int .i64 x.size, .int .u8 (x.sha 0), .int .u8 (x.sha 1), .int .u8 (x.sha 2), .int .u8 (x.sha 3), .int .u8 (x.sha 4), .int .u8 (x.sha 5), .int .u8 (x.sha 6), .int .u8 (x.sha 7), .int .u8 (x.sha 8), .int .u8 (x.sha 9), .int .u8 (x.sha 10), .int .u8 (x.sha 11), .int .u8 (x.sha 12), .int .u8 (x.sha 13), .int .u8 (x.sha 14), .int .u8 (x.sha 15), .int .u8 (x.sha 16), .int .u8 (x.sha 17), .int .u8 (x.sha 18), .int .u8 (x.sha 19), .int .u8 (x.sha 20), .int .u8 (x.sha 21), .int .u8 (x.sha 22), .int .u8 (x.sha 23), .int .u8 (x.sha 24), .int .u8 (x.sha 25), .int .u8 (x.sha 26), .int .u8 (x.sha 27), .int .u8 (x.sha 28), .int .u8 (x.sha 29), .int .u8 (x.sha 30), .int .u8 (x.sha 31)]) (.agg #[.string ⟨x.name.toArray⟩, .string ⟨x.id.toArray⟩, .int .i64 x.size, .int .u8 (x.sha 0), .int .u8 (x.sha 1), .int .u8 (x.sha 2), .int .u8 (x.sha 3), .int .u8 (x.sha 4), .int .u8 (x.sha 5), .int .u8 (x.sha 6), .int .u8 (x.sha 7), .int .u8 (x.sha 8), .int .u8 (x.sha 9), .int .u8 (x.sha 10), .int .u8 (x.sha 11), .int .u8 (x.sha 12), .int .u8 (x.sha 13), .int .u8 (x.sha 14), .int .u8 (x.sha 15), .int .u8 (x.sha 16), .int .u8 (x.sha 17), .int .u8 (x.sha 18), .int .u8 (x.sha 19), .int .u8 (x.sha 20), .int .u8 (x.sha 21), .int .u8 (x.sha 22), .int .u8 (x.sha 23), .int .u8 (x.sha 24), .int .u8 (x.sha 25), .int .u8 (x.sha 26), .int .u8 (x.sha 27), .int .u8 (x.sha 28), .int .u8 (x.sha 29), .int .u8 (x.sha 30), .int .u8 (x.sha 31)])) = some (.ok (.bool false)) := by
        show pur Tryz.prog (do pure (Value.bool (!(← Op.equal 35 (.agg #[.string ⟨x.name.toArray⟩, .string ⟨x.id.toArray⟩, .int .i64 x.size, .int .u8 (x.sha 0), .int .u8 (x.sha 1), .int .u8 (x.sha 2), .int .u8 (x.sha 3), .int .u8 (x.sha 4), .int .u8 (x.sha 5), .int .u8 (x.sha 6), .int .u8 (x.sha 7), .int .u8 (x.sha 8), .int .u8 (x.sha 9), .int .u8 (x.sha 10), .int .u8 (x.sha 11), .int .u8 (x.sha 12), .int .u8 (x.sha 13), .int .u8 (x.sha 14), .int .u8 (x.sha 15), .int .u8 (x.sha 16), .int .u8 (x.sha 17), .int .u8 (x.sha 18), .int .u8 (x.sha 19), .int .u8 (x.sha 20), .int .u8 (x.sha 21), .int .u8 (x.sha 22), .int .u8 (x.sha 23), .int .u8 (x.sha 24), .int .u8 (x.sha 25), .int .u8 (x.sha 26), .int .u8 (x.sha 27), .int .u8 (x.sha 28), .int .u8 (x.sha 29), .int .u8 (x.sha 30), .int .u8 (x.sha 31)]) (.agg #[.string ⟨x.name.toArray⟩, .string ⟨x.id.toArray⟩, .int .i64 x.size, .int .u8 (x.sha 0), .int .u8 (x.sha 1), .int .u8 (x.sha 2), .int .u8 (x.sha 3), .int .u8 (x.sha 4), .int .u8 (x.sha 5), .int .u8 (x.sha 6), .int .u8 (x.sha 7), .int .u8 (x.sha 8), .int .u8 (x.sha 9), .int .u8 (x.sha 10), .int .u8 (x.sha 11), .int .u8 (x.sha 12), .int .u8 (x.sha 13), .int .u8 (x.sha 14), .int .u8 (x.sha 15), .int .u8 (x.sha 16), .int .u8 (x.sha 17), .int .u8 (x.sha 18), .int .u8 (x.sha 19), .int .u8 (x.sha 20), .int .u8 (x.sha 21), .int .u8 (x.sha 22), .int .u8 (x.sha 23), .int .u8 (x.sha 24), .int .u8 (x.sha 25), .int .u8 (x.sha 26), .int .u8 (x.sha 27), .int .u8 (x.sha 28), .int .u8 (x.sha 29), .int .u8 (x.sha 30), .int .u8 (x.sha 31)]))))) = _
        simp only [pur_bind, pur_set, pur_pure]
        try rfl
      simp only [pur_bind, hg, hb, pur_pure]
    rw [this]
    rfl
  unfold aBin
  rw [e1, e2]
  show orLit _ _ _ _ _ = _
  unfold orLit
  rw [hl]
theorem a_eqSha (s : Fin 32 → Int) {i j : Nat} (hi : t.get i = .agg [.lit (.int .u8 (s 0)), .lit (.int .u8 (s 1)), .lit (.int .u8 (s 2)), .lit (.int .u8 (s 3)), .lit (.int .u8 (s 4)), .lit (.int .u8 (s 5)), .lit (.int .u8 (s 6)), .lit (.int .u8 (s 7)), .lit (.int .u8 (s 8)), .lit (.int .u8 (s 9)), .lit (.int .u8 (s 10)), .lit (.int .u8 (s 11)), .lit (.int .u8 (s 12)), .lit (.int .u8 (s 13)), .lit (.int .u8 (s 14)), .lit (.int .u8 (s 15)), .lit (.int .u8 (s 16)), .lit (.int .u8 (s 17)), .lit (.int .u8 (s 18)), .lit (.int .u8 (s 19)), .lit (.int .u8 (s 20)), .lit (.int .u8 (s 21)), .lit (.int .u8 (s 22)), .lit (.int .u8 (s 23)), .lit (.int .u8 (s 24)), .lit (.int .u8 (s 25)), .lit (.int .u8 (s 26)), .lit (.int .u8 (s 27)), .lit (.int .u8 (s 28)), .lit (.int .u8 (s 29)), .lit (.int .u8 (s 30)), .lit (.int .u8 (s 31))]) (hj : t.get j = .agg [.lit (.int .u8 (s 0)), .lit (.int .u8 (s 1)), .lit (.int .u8 (s 2)), .lit (.int .u8 (s 3)), .lit (.int .u8 (s 4)), .lit (.int .u8 (s 5)), .lit (.int .u8 (s 6)), .lit (.int .u8 (s 7)), .lit (.int .u8 (s 8)), .lit (.int .u8 (s 9)), .lit (.int .u8 (s 10)), .lit (.int .u8 (s 11)), .lit (.int .u8 (s 12)), .lit (.int .u8 (s 13)), .lit (.int .u8 (s 14)), .lit (.int .u8 (s 15)), .lit (.int .u8 (s 16)), .lit (.int .u8 (s 17)), .lit (.int .u8 (s 18)), .lit (.int .u8 (s 19)), .lit (.int .u8 (s 20)), .lit (.int .u8 (s 21)), .lit (.int .u8 (s 22)), .lit (.int .u8 (s 23)), .lit (.int .u8 (s 24)), .lit (.int .u8 (s 25)), .lit (.int .u8 (s 26)), .lit (.int .u8 (s 27)), .lit (.int .u8 (s 28)), .lit (.int .u8 (s 29)), .lit (.int .u8 (s 30)), .lit (.int .u8 (s 31))]) :
    aBinR Tryz.prog (tabOf Tryz.prog NT0) ⟨d, .binOp .eql 26 (.tmp i) (.tmp j) f, ty, ps, af, g⟩ t h .eql 26 (.tmp i) (.tmp j) = some (.val (.lit (.bool true)), h) := by
  show aBin Tryz.prog (tabOf Tryz.prog NT0) ⟨d, .binOp .eql 26 (.tmp i) (.tmp j) f, ty, ps, af, g⟩ t h .eql 26 (.tmp i) (.tmp j) = _
  have e1 : evalA t (.tmp i) = some (.agg [.lit (.int .u8 (s 0)), .lit (.int .u8 (s 1)), .lit (.int .u8 (s 2)), .lit (.int .u8 (s 3)), .lit (.int .u8 (s 4)), .lit (.int .u8 (s 5)), .lit (.int .u8 (s 6)), .lit (.int .u8 (s 7)), .lit (.int .u8 (s 8)), .lit (.int .u8 (s 9)), .lit (.int .u8 (s 10)), .lit (.int .u8 (s 11)), .lit (.int .u8 (s 12)), .lit (.int .u8 (s 13)), .lit (.int .u8 (s 14)), .lit (.int .u8 (s 15)), .lit (.int .u8 (s 16)), .lit (.int .u8 (s 17)), .lit (.int .u8 (s 18)), .lit (.int .u8 (s 19)), .lit (.int .u8 (s 20)), .lit (.int .u8 (s 21)), .lit (.int .u8 (s 22)), .lit (.int .u8 (s 23)), .lit (.int .u8 (s 24)), .lit (.int .u8 (s 25)), .lit (.int .u8 (s 26)), .lit (.int .u8 (s 27)), .lit (.int .u8 (s 28)), .lit (.int .u8 (s 29)), .lit (.int .u8 (s 30)), .lit (.int .u8 (s 31))]) := by rw [ev_tmp, hi]
  have e2 : evalA t (.tmp j) = some (.agg [.lit (.int .u8 (s 0)), .lit (.int .u8 (s 1)), .lit (.int .u8 (s 2)), .lit (.int .u8 (s 3)), .lit (.int .u8 (s 4)), .lit (.int .u8 (s 5)), .lit (.int .u8 (s 6)), .lit (.int .u8 (s 7)), .lit (.int .u8 (s 8)), .lit (.int .u8 (s 9)), .lit (.int .u8 (s 10)), .lit (.int .u8 (s 11)), .lit (.int .u8 (s 12)), .lit (.int .u8 (s 13)), .lit (.int .u8 (s 14)), .lit (.int .u8 (s 15)), .lit (.int .u8 (s 16)), .lit (.int .u8 (s 17)), .lit (.int .u8 (s 18)), .lit (.int .u8 (s 19)), .lit (.int .u8 (s 20)), .lit (.int .u8 (s 21)), .lit (.int .u8 (s 22)), .lit (.int .u8 (s 23)), .lit (.int .u8 (s 24)), .lit (.int .u8 (s 25)), .lit (.int .u8 (s 26)), .lit (.int .u8 (s 27)), .lit (.int .u8 (s 28)), .lit (.int .u8 (s 29)), .lit (.int .u8 (s 30)), .lit (.int .u8 (s 31))]) := by rw [ev_tmp, hj]
  have l1 : litEnv t (.tmp i) = .agg #[.int .u8 (s 0), .int .u8 (s 1), .int .u8 (s 2), .int .u8 (s 3), .int .u8 (s 4), .int .u8 (s 5), .int .u8 (s 6), .int .u8 (s 7), .int .u8 (s 8), .int .u8 (s 9), .int .u8 (s 10), .int .u8 (s 11), .int .u8 (s 12), .int .u8 (s 13), .int .u8 (s 14), .int .u8 (s 15), .int .u8 (s 16), .int .u8 (s 17), .int .u8 (s 18), .int .u8 (s 19), .int .u8 (s 20), .int .u8 (s 21), .int .u8 (s 22), .int .u8 (s 23), .int .u8 (s 24), .int .u8 (s 25), .int .u8 (s 26), .int .u8 (s 27), .int .u8 (s 28), .int .u8 (s 29), .int .u8 (s 30), .int .u8 (s 31)] := by unfold litEnv; rw [e1]; rfl
  have l2 : litEnv t (.tmp j) = .agg #[.int .u8 (s 0), .int .u8 (s 1), .int .u8 (s 2), .int .u8 (s 3), .int .u8 (s 4), .int .u8 (s 5), .int .u8 (s 6), .int .u8 (s 7), .int .u8 (s 8), .int .u8 (s 9), .int .u8 (s 10), .int .u8 (s 11), .int .u8 (s 12), .int .u8 (s 13), .int .u8 (s 14), .int .u8 (s 15), .int .u8 (s 16), .int .u8 (s 17), .int .u8 (s 18), .int .u8 (s 19), .int .u8 (s 20), .int .u8 (s 21), .int .u8 (s 22), .int .u8 (s 23), .int .u8 (s 24), .int .u8 (s 25), .int .u8 (s 26), .int .u8 (s 27), .int .u8 (s 28), .int .u8 (s 29), .int .u8 (s 30), .int .u8 (s 31)] := by unfold litEnv; rw [e2]; rfl
  have hl : litOp Tryz.prog ⟨d, .binOp .eql 26 (.tmp i) (.tmp j) f, ty, ps, af, g⟩ t = some (.val (.lit (.bool true))) := by
    unfold litOp
    rw [if_pos (by
      show (notSelect _ && litAll t [.tmp i, .tmp j]) = true
      simp only [litAll, e1, e2]
      rfl)]
    have : pur Tryz.prog (execOp (litEnv t) ⟨d, .binOp .eql 26 (.tmp i) (.tmp j) f, ty, ps, af, g⟩) = some (.ok (.value (.bool true))) := by
      show pur Tryz.prog (do pure (Next.value (← (do eqGuard .eql 26 (.tmp i) (.tmp j) (litEnv t (.tmp i)) (litEnv t (.tmp j)); binOp .eql 26 (litEnv t (.tmp i)) (litEnv t (.tmp j)))))) = _
      rw [l1, l2]
      have hg : pur Tryz.prog (eqGuard .eql 26 (.tmp i) (.tmp j) (.agg #[.int .u8 (s 0), .int .u8 (s 1), .int .u8 (s 2), .int .u8 (s 3), .int .u8 (s 4), .int .u8 (s 5), .int .u8 (s 6), .int .u8 (s 7), .int .u8 (s 8), .int .u8 (s 9), .int .u8 (s 10), .int .u8 (s 11), .int .u8 (s 12), .int .u8 (s 13), .int .u8 (s 14), .int .u8 (s 15), .int .u8 (s 16), .int .u8 (s 17), .int .u8 (s 18), .int .u8 (s 19), .int .u8 (s 20), .int .u8 (s 21), .int .u8 (s 22), .int .u8 (s 23), .int .u8 (s 24), .int .u8 (s 25), .int .u8 (s 26), .int .u8 (s 27), .int .u8 (s 28), .int .u8 (s 29), .int .u8 (s 30), .int .u8 (s 31)]) (.agg #[.int .u8 (s 0), .int .u8 (s 1), .int .u8 (s 2), .int .u8 (s 3), .int .u8 (s 4), .int .u8 (s 5), .int .u8 (s 6), .int .u8 (s 7), .int .u8 (s 8), .int .u8 (s 9), .int .u8 (s 10), .int .u8 (s 11), .int .u8 (s 12), .int .u8 (s 13), .int .u8 (s 14), .int .u8 (s 15), .int .u8 (s 16), .int .u8 (s 17), .int .u8 (s 18), .int .u8 (s 19), .int .u8 (s 20), .int .u8 (s 21), .int .u8 (s 22), .int .u8 (s 23), .int .u8 (s 24), .int .u8 (s 25), .int .u8 (s 26), .int .u8 (s 27), .int .u8 (s 28), .int .u8 (s 29), .int .u8 (s 30), .int .u8 (s 31)])) = some (.ok ()) := by
        have hm : Tryz.prog.eqGuardType Tryz.prog.depth 26 = false := by kernel_rfl
        simp [eqGuard, pur_bind, pur_program, hm, pur_pure]
      have hb : pur Tryz.prog (binOp .eql 26 (.agg #[.int .u8 (s 0), .int .u8 (s 1), .int .u8 (s 2), .int .u8 (s 3), .int .u8 (s 4), .int .u8 (s 5), .int .u8 (s 6), .int .u8 (s 7), .int .u8 (s 8), .int .u8 (s 9), .int .u8 (s 10), .int .u8 (s 11), .int .u8 (s 12), .int .u8 (s 13), .int .u8 (s 14), .int .u8 (s 15), .int .u8 (s 16), .int .u8 (s 17), .int .u8 (s 18), .int .u8 (s 19), .int .u8 (s 20), .int .u8 (s 21), .int .u8 (s 22), .int .u8 (s 23), .int .u8 (s 24), .int .u8 (s 25), .int .u8 (s 26), .int .u8 (s 27), .int .u8 (s 28), .int .u8 (s 29), .int .u8 (s 30), .int .u8 (s 31)]) (.agg #[.int .u8 (s 0), .int .u8 (s 1), .int .u8 (s 2), .int .u8 (s 3), .int .u8 (s 4), .int .u8 (s 5), .int .u8 (s 6), .int .u8 (s 7), .int .u8 (s 8), .int .u8 (s 9), .int .u8 (s 10), .int .u8 (s 11), .int .u8 (s 12), .int .u8 (s 13), .int .u8 (s 14), .int .u8 (s 15), .int .u8 (s 16), .int .u8 (s 17), .int .u8 (s 18), .int .u8 (s 19), .int .u8 (s 20), .int .u8 (s 21), .int .u8 (s 22), .int .u8 (s 23), .int .u8 (s 24), .int .u8 (s 25), .int .u8 (s 26), .int .u8 (s 27), .int .u8 (s 28), .int .u8 (s 29), .int .u8 (s 30), .int .u8 (s 31)])) = some (.ok (.bool true)) := by
        show pur Tryz.prog (do pure (Value.bool ((← Op.equal 26 (.agg #[.int .u8 (s 0), .int .u8 (s 1), .int .u8 (s 2), .int .u8 (s 3), .int .u8 (s 4), .int .u8 (s 5), .int .u8 (s 6), .int .u8 (s 7), .int .u8 (s 8), .int .u8 (s 9), .int .u8 (s 10), .int .u8 (s 11), .int .u8 (s 12), .int .u8 (s 13), .int .u8 (s 14), .int .u8 (s 15), .int .u8 (s 16), .int .u8 (s 17), .int .u8 (s 18), .int .u8 (s 19), .int .u8 (s 20), .int .u8 (s 21), .int .u8 (s 22), .int .u8 (s 23), .int .u8 (s 24), .int .u8 (s 25), .int .u8 (s 26), .int .u8 (s 27), .int .u8 (s 28), .int .u8 (s 29), .int .u8 (s 30), .int .u8 (s 31)]) (.agg #[.int .u8 (s 0), .int .u8 (s 1), .int .u8 (s 2), .int .u8 (s 3), .int .u8 (s 4), .int .u8 (s 5), .int .u8 (s 6), .int .u8 (s 7), .int .u8 (s 8), .int .u8 (s 9), .int .u8 (s 10), .int .u8 (s 11), .int .u8 (s 12), .int .u8 (s 13), .int .u8 (s 14), .int .u8 (s 15), .int .u8 (s 16), .int .u8 (s 17), .int .u8 (s 18), .int .u8 (s 19), .int .u8 (s 20), .int .u8 (s 21), .int .u8 (s 22), .int .u8 (s 23), .int .u8 (s 24), .int .u8 (s 25), .int .u8 (s 26), .int .u8 (s 27), .int .u8 (s 28), .int .u8 (s 29), .int .u8 (s 30), .int .u8 (s 31)]))))) = _
        simp only [pur_bind, pur_shaT, pur_pure]
        try rfl
      simp only [pur_bind, hg, hb, pur_pure]
    rw [this]
    rfl
  unfold aBin
  rw [e1, e2]
  show orLit _ _ _ _ _ = _
  unfold orLit
  rw [hl]
end
end Go.Proofs.YtdcmfchodooolaaGreatDoor.Ex
end

section

set_option linter.unusedSimpArgs false
set_option linter.unusedVariables false
set_option maxRecDepth 10000
set_option maxHeartbeats 4000000
namespace Go.Proofs.YtdcmfchodooolaaGreatDoor.Ex
open Go
theorem ownx_nil {α : Type} {R : Rep α} {cf : α → List AV} {z : Nat} {h : AH} {v : AV} {e : TypeId} {xs : List α} {T : TT} {F : Nat → Prop} {zv : AV} {t : TypeId} {by' : Nat} (hR : FlatK R cf z) (hu : und T t = some (.slice e)) (hz : sizeT T e = some z) (hzv : zeroT T e = some zv) (hb : bytesT T e = some by')
    (hzl : zv.cells.length = z) (h200 : z ≤ 200) (hv : IsSl R F h v xs) (hn : xs.length ≤ 4611686018427387904) (hl : xs.length * by' ≤ 140737488355328) :
    ∃ s' h', appendA T h t t (.lit (.slice none 0 0)) v = some (s', h') ∧ OwnX cf z h.n h' s' e xs ∧ Ext h.n h h' := by
  obtain ⟨L, h1, h2, h3, h4⟩ := hv.out
  have e0 := h4.1
  have hL : L = xs.map cf := by
    refine List.ext_getElem? fun i => ?_
    rw [List.getElem?_map]
    cases hx : xs[i]? with
    | none => rw [List.getElem?_eq_none_iff] at hx; rw [Option.map_none, List.getElem?_eq_none_iff]; omega
    | some x =>
      have hi := (List.getElem?_eq_some_iff.1 hx).1
      have := h4.2 i L[i] x (List.getElem?_eq_getElem (by omega)) hx
      rw [List.getElem?_eq_getElem (by omega), (hR.is _ _ _ _).1 this]
      rfl
  have hown : Own h.n h (.lit (.slice none 0 0)) z e [] := ⟨fun x hx => (by cases hx), .inl ⟨rfl, rfl⟩⟩
  obtain ⟨s', h', ha, ho, he, -⟩ := append_own (T := T) (h := h) (t := t) (tx := t) (e := e) (L := []) (M := L) (x := v) hu hu hz hzv hb hzl hR.z0 h200 hown (by have := h1.src; rw [hR.hz] at this; exact this) h1.len (fun c hc => by have := h4.lens c hc; rw [hR.hz] at this; exact this) h4.ones (by rw [List.length_nil]; omega) (by rw [List.length_nil, Nat.zero_add, e0]; exact hl) (Nat.le_refl _)
  refine ⟨s', h', ha, ?_, he⟩
  rw [List.nil_append] at ho
  rcases ho.2 with ⟨h5, h6⟩ | ⟨p, h5, h6, h7⟩
  · exact .inl ⟨h5, List.eq_nil_of_length_eq_zero (by rw [← e0, h6]; rfl)⟩
  · exact .inr (.inr ⟨p, [], h6, by rw [h5, e0], by rw [List.append_nil, h7, hL, List.flatMap_def]⟩)
theorem plain_x {F : Nat → Prop} {H : AH} {vl vo : AV} {r : RootD} (hl : IsSl RSet F H vl r.live) (ho : IsSl RTx F H vo r.ops) (nl : r.live.length ≤ 1000000000000) (no : r.ops.length ≤ 1000000000000) :
    WC Tryz.prog (tabOf Tryz.prog NT0) S0 4 [.agg [vl, vo]] H fun v h' => Ext H.n H h' ∧ OwnQ 35 H.n h' v r := by
  refine WC_fn Tryz.func4 rfl rfl ?_
  have l1 := hl.one
  have l2 := hl.isSl
  have l3 := hl.lenD
  have o1 := ho.one
  have o2 := ho.isSl
  obtain ⟨m, hM⟩ : ∃ m, m = r.live.length := ⟨_, rfl⟩
  rw [← hM] at l3
  obtain ⟨hp, hhp⟩ : ∃ hp, hp = H.push (.cells [vl, vo] 25) := ⟨_, rfl⟩
  have EP : Ext H.n H hp := hhp ▸ (Ext.refl _ _).push _ (Nat.le_refl _)
  have nP : hp.n = H.n + 1 := by rw [hhp, n_push]
  have P0 : hp.at H.n = some (.cells [vl, vo] 25) := hhp ▸ at_push_n _ _
  obtain ⟨hq, hhq⟩ : ∃ hq, hq = hp.push (.cells [.lit (.slice none 0 0), .lit (.slice none 0 0)] 33) := ⟨_, rfl⟩
  have EQ : Ext hp.n hp hq := hhq ▸ (Ext.refl _ _).push _ (Nat.le_refl _)
  have nQ : hq.n = H.n + 2 := by rw [hhq, n_push, nP]
  have Q0 : hq.at hp.n = some (.cells [.lit (.slice none 0 0), .lit (.slice none 0 0)] 33) := hhq ▸ at_push_n _ _
  obtain ⟨hs, hhs⟩ : ∃ hs, hs = hq.push (.cells [.lit (.slice none 0 0), .lit (.slice none 0 0)] 33) := ⟨_, rfl⟩
  have ES : Ext hq.n hq hs := hhs ▸ (Ext.refl _ _).push _ (Nat.le_refl _)
  have nS : hs.n = H.n + 3 := by rw [hhs, n_push, nQ]
  have S0 : hs.at hq.n = some (.cells [.lit (.slice none 0 0), .lit (.slice none 0 0)] 33) := hhs ▸ at_push_n _ _
  have P2 := (ES.2 _ (by omega)).trans ((EQ.2 _ (at_lt P0)).trans P0)
  have Q2 := (ES.2 _ (at_lt Q0)).trans Q0
  have E0 := EP.trans ((EQ.trans (ES.mono EQ.1)).mono EP.1)
  have LP := ld_at (T := tabOf Tryz.prog NT0) P2
  have lP := at_lt P2
  simp only [core, zrA, zrS, zrM, zrL, zrE, reduceCtorEq, zrD, ziE, ziL, ziN, Tryz.ntmps4, l1, l2, l3, o1, o2, ← hhp, ← hhq, ← hhs, LP, lP]
  refine WB_for m (fun i t h => Ext hq.n hs h ∧ ∃ u, h.at hq.n = some (.cells [u, .lit (.slice none 0 0)] 33) ∧ OwnX setC 35 (hq.n + 1) h u 35 (r.live.take i) ∧ t.n = 35 ∧ t.get 1 = .ptr H.n 0 ∧ t.get 2 = .ptr hp.n 0 ∧ t.get 3 = .ptr hq.n 0 ∧ t.get 7 = vl ∧ t.get 8 = .lit (.int .i64 m) ∧ t.get 9 = .lit (.int .i64 i)) ?_ ?_ _ _ ?_
  · rintro i t h hlt hc2 ⟨E, u, B, ou, hn, g1, g2, g3, g7, g8, g9⟩ ih
    have hwi := wrap_succ (n := m) hlt (by omega)
    obtain ⟨x, hx⟩ : ∃ x, r.live[i]? = some x := ⟨_, List.getElem?_eq_getElem (by omega)⟩
    have EH : Ext H.n H h := E0.trans (E.mono (by omega))
    obtain ⟨cc, hc1, hld, hld0⟩ := hl.atE (T := tabOf Tryz.prog NT0) EH RSet_z hx
    obtain rfl := RSet_is.1 hc1
    obtain ⟨hA, hhA⟩ : ∃ hA, hA = h.push (.cells (setC x) 28) := ⟨_, rfl⟩
    have eA : Ext h.n h hA := hhA ▸ (Ext.refl _ _).push _ (Nat.le_refl _)
    have XA : hA.at h.n = some (.cells (setC x) 28) := hhA ▸ at_push_n _ _
    have lB := at_lt B
    have mA := eA.1
    have EA := E.trans (eA.mono (by omega))
    have BA := (eA.2 _ lB).trans B
    have oA := ou.ext eA (Nat.le_refl _)
    have LXA := ld_at (T := tabOf Tryz.prog NT0) XA
    have lXA := at_lt XA
    have LBA := ld_at (T := tabOf Tryz.prog NT0) BA
    have lBA := at_lt BA
    have u1 := ou.one
    have u2 := ou.isSl
    have htk : r.live.take (i + 1) = r.live.take i ++ [x] := by
      obtain ⟨h1, h2⟩ := List.getElem?_eq_some_iff.1 hx
      rw [List.take_succ_eq_append_getElem h1, h2]
    have e5 : Ext hA.n hA (hA.push (.cells (setC x) 35)) := (Ext.refl _ _).push _ (Nat.le_refl _)
    have hsn := fun cap => snocS (cap := cap) (x := x) (oA.ext e5 (Nat.le_refl _)) (by rw [n_push]; omega) (at_push_n hA _) (by rw [List.length_take]; omega)
    have B5' := (e5.2 _ lBA).trans BA
    unfold setC at hhA XA hld hld0 LXA hsn e5 B5'
    simp only [core, zrA, zrS, zrM, zrL, zrE, reduceCtorEq, zrD, ziE, ziL, ziN, hn, g1, g2, g3, g7, g8, g9, hlt, hc2, l1, l2, l3, hld, hld0, ← hhA, LXA, lXA, LBA, lBA, u1, u2]
    refine WOp_app (hsn _) ?_
    rintro s6 h6 ⟨o6, e6⟩
    have u6 := o6.one
    have u7 := o6.isSl
    have B6 := (e6.2 hq.n (by omega)).trans B5'
    have lB6 := at_lt B6
    have e56 : Ext hq.n hs h6 := EA.trans ((e5.mono (by omega)).trans (e6.mono (Nat.le_succ _)))
    simp only [core, zrA, zrS, zrM, zrL, zrE, reduceCtorEq, zrD, ziE, ziL, ziN, hn, g1, g2, g3, g7, g8, g9, u6, u7, hwi, B6, lB6]
    refine ih _ _ ⟨e56.put _ (Nat.le_refl _), s6, at_put_same _ lB6, by rw [htk]; exact o6.putLt (Nat.lt_succ_self _), ?_⟩
    simp only [core, zrA, zrS, zrM, zrL, zrE, reduceCtorEq, zrD, ziE, ziL, ziN, hn, g1, g2, g3, g7, g8, g9]
  · rintro t h hc2 ⟨E, u, B, ou, hn, g1, g2, g3, g7, g8, g9⟩
    rw [hM, List.take_length] at ou
    have EH : Ext H.n H h := E0.trans (E.mono (by omega))
    have PH := (E.2 _ (by omega)).trans P2
    have QH := (E.2 _ (by omega)).trans Q2
    have LB := ld_at (T := tabOf Tryz.prog NT0) B
    have lB := at_lt B
    have LPH := ld_at (T := tabOf Tryz.prog NT0) PH
    have lPH := at_lt PH
    have u1 := ou.one
    have u2 := ou.isSl
    simp only [core, zrA, zrS, zrM, zrL, zrE, reduceCtorEq, zrD, ziE, ziL, ziN, hn, g1, g2, g3, g7, g8, g9, hc2, LB, lB, LPH, lPH, u1, u2, o1, o2]
    refine WOp_app (ownx_nil (e := 9) flatTx (by kernel_rfl) (by kernel_rfl) (zv := .lit (.string ⟨#[]⟩)) (by kernel_rfl) (by' := 16) (by kernel_rfl) rfl (by decide) (ho.ext EH (Nat.le_refl _)) (by omega) (by omega)) ?_
    rintro w h6 ⟨ow, e6⟩
    have B6 := (e6.2 _ lB).trans B
    have Q6 := (e6.2 _ (at_lt QH)).trans QH
    have m6 := e6.1
    have lB6 := at_lt B6
    have w1 := ow.one
    have w2 := ow.isSl
    obtain ⟨h7, hh7⟩ : ∃ h7, h7 = h6.put hq.n (.cells [u, w] 33) := ⟨_, rfl⟩
    have E7 : Ext H.n H h7 := hh7 ▸ (EH.trans (e6.mono EH.1)).put _ (by omega)
    have B7 : h7.at hq.n = some (.cells [u, w] 33) := hh7 ▸ at_put_same _ lB6
    have Q7 : h7.at hp.n = _ := (hh7 ▸ at_put_ne _ (by omega) : h7.at hp.n = h6.at hp.n).trans Q6
    have LB7 := ld_at (T := tabOf Tryz.prog NT0) B7
    have lB7 := at_lt B7
    have lQ7 := at_lt Q7
    obtain ⟨h8, hh8⟩ : ∃ h8, h8 = h7.put hp.n (.cells [u, w] 33) := ⟨_, rfl⟩
    have E8 : Ext H.n H h8 := hh8 ▸ E7.put _ (by omega)
    have Q8 : h8.at hp.n = some (.cells [u, w] 33) := hh8 ▸ at_put_same _ lQ7
    have LQ8 := ld_at (T := tabOf Tryz.prog NT0) Q8
    have lQ8 := at_lt Q8
    simp only [core, zrA, zrS, zrM, zrL, zrE, reduceCtorEq, zrD, ziE, ziL, ziN, hn, g1, g2, g3, g7, g8, g9, w1, w2, u1, u2, B6, lB6, ← hh7, LB7, lB7, Q7, lQ7, ← hh8, LQ8, lQ8]
    exact ⟨E8, u, w, rfl, (hh8 ▸ (hh7 ▸ (ou.ext e6 (Nat.le_refl _)).putLt (by omega) : OwnX setC 35 (hq.n + 1) h7 u 35 r.live).putLt (by omega) : OwnX setC 35 (hq.n + 1) h8 u 35 r.live).mono (by omega),
      (hh8 ▸ (hh7 ▸ ow.putLt lB : OwnX txC 1 h.n h7 w 9 r.ops).putLt (by omega) : OwnX txC 1 h.n h8 w 9 r.ops).mono (by omega)⟩
  · refine ⟨Ext.refl _ _, _, S0, .inl ⟨rfl, by simp⟩, ?_⟩
    simp only [core, zrA, zrS, zrM, zrL, zrE, reduceCtorEq, zrD, ziE, ziL, ziN]
    try ((repeat' apply And.intro) <;> first | rfl | trivial)
theorem Same_x {F G : Nat → Prop} {H : AH} {va wa vb wb : AV} {r : RootD} (hla : IsSl RSet F H va r.live) (hoa : IsSl RTx F H wa r.ops) (hlb : IsSl RSet G H vb r.live) (hob : IsSl RTx G H wb r.ops) (nl : r.live.length ≤ 1000000000000) (no : r.ops.length ≤ 1000000000000) :
    WC Tryz.prog (tabOf Tryz.prog NT0) S0 28 [.agg [va, wa], .agg [vb, wb]] H fun v h' => Ext H.n H h' ∧ v = .lit (.bool true) := by
  refine WC_fn Tryz.func28 rfl rfl ?_
  have a1 := hla.one
  have a2 := hla.isSl
  have a3 := hla.lenD
  have b1 := hlb.one
  have b2 := hlb.isSl
  have b3 := hlb.lenD
  have c1 := hoa.one
  have c2 := hoa.isSl
  have d1 := hob.one
  have d2 := hob.isSl
  obtain ⟨m, hM⟩ : ∃ m, m = r.live.length := ⟨_, rfl⟩
  rw [← hM] at a3 b3
  obtain ⟨hp, hhp⟩ : ∃ hp, hp = H.push (.cells [va, wa] 33) := ⟨_, rfl⟩
  have EP : Ext H.n H hp := hhp ▸ (Ext.refl _ _).push _ (Nat.le_refl _)
  have nP : hp.n = H.n + 1 := by rw [hhp, n_push]
  have P0 : hp.at H.n = some (.cells [va, wa] 33) := hhp ▸ at_push_n _ _
  obtain ⟨hq, hhq⟩ : ∃ hq, hq = hp.push (.cells [vb, wb] 33) := ⟨_, rfl⟩
  have EQ : Ext hp.n hp hq := hhq ▸ (Ext.refl _ _).push _ (Nat.le_refl _)
  have Q0 : hq.at hp.n = some (.cells [vb, wb] 33) := hhq ▸ at_push_n _ _
  have P1 := (EQ.2 _ (at_lt P0)).trans P0
  have E0 := EP.trans (EQ.mono EP.1)
  have LP := ld_at (T := tabOf Tryz.prog NT0) P1
  have lP := at_lt P1
  have LQ := ld_at (T := tabOf Tryz.prog NT0) Q0
  have lQ := at_lt Q0
  have hmm : ((m : Int) != (m : Int)) = false := by simp
  simp only [core, zrA, zrS, zrM, zrL, zrE, reduceCtorEq, zrD, ziE, ziL, ziN, Tryz.ntmps28, a1, a2, a3, b1, b2, b3, c1, c2, d1, d2, ← hhp, ← hhq, LP, lP, LQ, lQ, hmm, aundef]
  refine (texts_x (hoa.ext E0 (Nat.le_refl _)) (hob.ext E0 (Nat.le_refl _)) (by omega)).mono ?_
  rintro _ h2 ⟨rfl, q5⟩
  replace q5 := q5.symm
  subst q5
  simp only [core, zrA, zrS, zrM, zrL, zrE, reduceCtorEq, zrD, ziE, ziL, ziN, aundef, a1, a2, a3, b1, b2, b3, c1, c2, d1, d2, LP, lP, LQ, lQ]
  refine WB_for m (fun i t h => Ext hq.n hq h ∧ t.n = 39 ∧ t.get 2 = .ptr H.n 0 ∧ t.get 3 = .ptr hp.n 0 ∧ t.get 23 = .lit (.int .i64 m) ∧ t.get 24 = .lit (.int .i64 i)) ?_ ?_ _ _ ?_
  · rintro i t h hlt hc2 ⟨E, hn, g2, g3, g23, g24⟩ ih
    have hwi := wrap_succ (n := m) hlt (by omega)
    obtain ⟨x, hx⟩ : ∃ x, r.live[i]? = some x := ⟨_, List.getElem?_eq_getElem (by omega)⟩
    have EH := E0.trans (E.mono E0.1)
    have PH := (E.2 _ lP).trans P1
    have QH := (E.2 _ lQ).trans Q0
    have LPH := ld_at (T := tabOf Tryz.prog NT0) PH
    have lPH := at_lt PH
    have LQH := ld_at (T := tabOf Tryz.prog NT0) QH
    have lQH := at_lt QH
    have ld : ∀ {F : Nat → Prop} {v : AV}, IsSl RSet F H v r.live → loadA (tabOf Tryz.prog NT0) h 35 (slB v) (slO v + i * 35) = some (.agg (setC x)) := fun {F v} hv => by
      obtain ⟨cc, hc1, hld, hld0⟩ := hv.atE (T := tabOf Tryz.prog NT0) EH RSet_z hx
      obtain rfl := RSet_is.1 hc1
      exact (hld0 35 35 (by kernel_rfl) (by decide) (by decide)).trans rfl
    have la := ld hla
    have lb := ld hlb
    unfold setC at la lb
    simp only [core, zrA, zrS, zrM, zrL, zrE, reduceCtorEq, zrD, ziE, ziL, ziN, hn, g2, g3, g23, g24, hlt, hc2]
    rw [WB_regionD [0, 1, 2, 3, 4, 5, 6, 7, 8, 9, 10] 1328234227038981502217834417061103616 (by kernel_rfl)]
    repeat (first | ((with_reducible refine WDM_cons ?_; simp only [dw1]; try simp only [dw2, zrA, zrM, zrR, zrO, zrE]); simp only [core, zrA, zrS, zrM, zrL, zrE, reduceCtorEq, zrD, ziE, ziL, ziN, cored, hn, g2, g3, g23, g24, hlt, a1, a2, a3, b1, b2, b3, LPH, lPH, LQH, lQH, la, lb, a_neS x, hwi]) | simp only [core, zrA, zrS, zrM, zrL, zrE, reduceCtorEq, zrD, ziE, ziL, ziN, cored, hn, g2, g3, g23, g24, hlt, a1, a2, a3, b1, b2, b3, LPH, lPH, LQH, lQH, la, lb, a_neS x, hwi])
    refine ih _ _ ⟨E, ?_⟩
    simp only [core, zrA, zrS, zrM, zrL, zrE, reduceCtorEq, zrD, ziE, ziL, ziN, hn, g2, g3, g23, g24]
  · rintro t h hc2 ⟨E, hn, g2, g3, g23, g24⟩
    simp only [core, zrA, zrS, zrM, zrL, zrE, reduceCtorEq, zrD, ziE, ziL, ziN, hn, g2, g3, g23, g24, hc2]
    first | exact ⟨E0.trans (E.mono E0.1), rfl⟩ | exact E0.trans (E.mono E0.1)
  · refine ⟨Ext.refl _ _, ?_⟩
    simp only [core, zrA, zrS, zrM, zrL, zrE, reduceCtorEq, zrD, ziE, ziL, ziN]
    try ((repeat' apply And.intro) <;> first | rfl | trivial)
end Go.Proofs.YtdcmfchodooolaaGreatDoor.Ex
end

section

set_option linter.unusedSimpArgs false
set_option linter.unusedVariables false
set_option maxRecDepth 10000
set_option maxHeartbeats 8000000
namespace Go.Proofs.YtdcmfchodooolaaGreatDoor.Ex
open Go
theorem same_x {F G : Nat → Prop} {H : AH} {va wa vb wb : AV} {r : RootD} (hla : IsSl RSet F H va r.live) (hoa : IsSl RTx F H wa r.ops) (hlb : IsSl RSet G H vb r.live) (hob : IsSl RTx G H wb r.ops) (nl : r.live.length ≤ 1000000000000) (no : r.ops.length ≤ 1000000000000) :
    WC Tryz.prog (tabOf Tryz.prog NT0) S0 7 [.agg [va, wa], .agg [vb, wb]] H fun v h' => Ext H.n H h' ∧ v = .lit (.bool true) := by
  refine WC_fn Tryz.func7 rfl rfl ?_
  have a1 := hla.one
  have a2 := hla.isSl
  have b1 := hlb.one
  have b2 := hlb.isSl
  have c1 := hoa.one
  have c2 := hoa.isSl
  have d1 := hob.one
  have d2 := hob.isSl
  obtain ⟨hp, hhp⟩ : ∃ hp, hp = H.push (.cells [va, wa] 25) := ⟨_, rfl⟩
  have EP : Ext H.n H hp := hhp ▸ (Ext.refl _ _).push _ (Nat.le_refl _)
  have P0 : hp.at H.n = some (.cells [va, wa] 25) := hhp ▸ at_push_n _ _
  obtain ⟨hq, hhq⟩ : ∃ hq, hq = hp.push (.cells [vb, wb] 33) := ⟨_, rfl⟩
  have EQ : Ext hp.n hp hq := hhq ▸ (Ext.refl _ _).push _ (Nat.le_refl _)
  have Q0 : hq.at hp.n = some (.cells [vb, wb] 33) := hhq ▸ at_push_n _ _
  have P1 := (EQ.2 _ (at_lt P0)).trans P0
  have E0 := EP.trans (EQ.mono EP.1)
  have LP := ld_at (T := tabOf Tryz.prog NT0) P1
  have lP := at_lt P1
  have LQ := ld_at (T := tabOf Tryz.prog NT0) Q0
  have lQ := at_lt Q0
  simp only [core, zrA, zrS, zrM, zrL, zrE, reduceCtorEq, zrD, ziE, ziL, ziN, Tryz.ntmps7, a1, a2, b1, b2, c1, c2, d1, d2, ← hhp, ← hhq, LP, lP, LQ, lQ]
  rw [WB_regionD [0, 2, 1, 3, 4] 15958048 (by kernel_rfl)]
  repeat (first | ((with_reducible refine WDM_cons ?_; simp only [dw1]; try simp only [dw2, zrA, zrM, zrR, zrO, zrE]); simp only [core, zrA, zrS, zrM, zrL, zrE, reduceCtorEq, zrD, ziE, ziL, ziN, cored, a1, a2, b1, b2, c1, c2, d1, d2, LP, lP, LQ, lQ]) | simp only [core, zrA, zrS, zrM, zrL, zrE, reduceCtorEq, zrD, ziE, ziL, ziN, cored, a1, a2, b1, b2, c1, c2, d1, d2, LP, lP, LQ, lQ])
  refine (plain_x (hla.ext E0 (Nat.le_refl _)) (hoa.ext E0 (Nat.le_refl _)) nl no).mono ?_
  rintro _ h2 ⟨E2, u, w, rfl, ou, ow⟩
  have E02 := E0.trans (E2.mono E0.1)
  have Q2 := (E2.2 _ lQ).trans Q0
  have LQ2 := ld_at (T := tabOf Tryz.prog NT0) Q2
  have lQ2 := at_lt Q2
  have u1 := ou.one
  have u2 := ou.isSl
  have w1 := ow.one
  have w2 := ow.isSl
  repeat (first | ((with_reducible refine WDM_cons ?_; simp only [dw1]; try simp only [dw2, zrA, zrM, zrR, zrO, zrE]); simp only [core, zrA, zrS, zrM, zrL, zrE, reduceCtorEq, zrD, ziE, ziL, ziN, cored, u1, u2, w1, w2, b1, b2, d1, d2, LQ2, lQ2]) | simp only [core, zrA, zrS, zrM, zrL, zrE, reduceCtorEq, zrD, ziE, ziL, ziN, cored, u1, u2, w1, w2, b1, b2, d1, d2, LQ2, lQ2])
  refine (Same_x (F := fun _ => True) (ou.toSl flatSet fun _ _ => trivial) (ow.toSl flatTx fun _ _ => trivial) (hlb.ext E02 (Nat.le_refl _)) (hob.ext E02 (Nat.le_refl _)) nl no).mono ?_
  rintro _ h3 ⟨E3, rfl⟩
  have E03 := E02.trans (E3.mono E02.1)
  repeat (first | ((with_reducible refine WDM_cons ?_; simp only [dw1]; try simp only [dw2, zrA, zrM, zrR, zrO, zrE]); simp only [core, zrA, zrS, zrM, zrL, zrE, reduceCtorEq, zrD, ziE, ziL, ziN, cored]) | simp only [core, zrA, zrS, zrM, zrL, zrE, reduceCtorEq, zrD, ziE, ziL, ziN, cored])
  first | exact ⟨E03, rfl⟩ | exact E03
theorem root_len {r : RootD} : chkF r = 0 → r.live.length ≤ 16 ∧ r.ops.length ≤ 16 := fun h => ⟨(chk_len h).2, (chk_len h).1⟩
theorem insS_len {s : SetD} : ∀ l : List SetD, (insS s l).length ≤ l.length + 1
  | [] => Nat.le_refl _
  | x :: r => by
    have := insS_len (s := s) r
    unfold insS
    cases ltS x.name s.name with
    | true => rw [cond_true, List.length_cons, List.length_cons]; omega
    | false =>
      rw [cond_false, List.length_cons, List.length_cons]
      have := List.length_filter_le (fun y : SetD => !(y.name == s.name)) (x :: r)
      rw [List.length_cons] at this
      omega
def SmR (r : RootD) : Prop := r.live.length ≤ 1000000000000 ∧ r.ops.length ≤ 1000000000000
theorem sm0 : SmR root0 := ⟨Nat.zero_le _, Nat.zero_le _⟩
theorem sm_open {r : RootD} {id : List UInt8} : SmR (openF r id).1 := by
  unfold openF
  split
  · rename_i hc
    obtain ⟨h1, h2⟩ := root_len hc
    repeat' split
    all_goals first | exact sm0 | exact ⟨by show r.live.length ≤ _; omega, by show (insT id r.ops).length ≤ _; rw [(insT_perm id r.ops).length_eq, List.length_append, List.length_singleton]; omega⟩
  · exact sm0
theorem sm_commit {r : RootD} {s : SetD} : SmR (commitF r s).1 := by
  unfold commitF
  split
  · rename_i hc
    obtain ⟨h1, h2⟩ := root_len hc
    repeat' split
    all_goals first | exact sm0 | exact ⟨by show (insS s r.live).length ≤ _; have := insS_len (s := s) r.live; omega, by show (r.ops.filter _).length ≤ _; have := List.length_filter_le (fun x => !(x == s.id)) r.ops; omega⟩
  · exact sm0
theorem sm_delete {r : RootD} {n : List UInt8} : SmR (deleteF r n).1 := by
  unfold deleteF
  split
  · rename_i hc
    obtain ⟨h1, h2⟩ := root_len hc
    repeat' split
    all_goals first | exact sm0 | exact ⟨by show (r.live.filter _).length ≤ _; have := List.length_filter_le (fun s : SetD => !(s.name == n)) r.live; omega, by show r.ops.length ≤ _; omega⟩
  · exact sm0
theorem sm_close {r : RootD} {id : List UInt8} : SmR (closeF r id).1 := by
  unfold closeF
  split
  · rename_i hc
    obtain ⟨h1, h2⟩ := root_len hc.1
    exact ⟨by show r.live.length ≤ _; omega, by show (r.ops.filter _).length ≤ _; have := List.length_filter_le (fun x => !(x == id)) r.ops; omega⟩
  · exact sm0
theorem roots_m {F : Nat → Prop} {H : AH} {vl vo : AV} {r : RootD} {name id : List UInt8} {s : SetD} (hl : IsSl RSet F H vl r.live) (ho : IsSl RTx F H vo r.ops) (hr : RLen r) (nl : r.live.length ≤ 1000000000000) (no : r.ops.length ≤ 1000000000000)
    (hid : id.length ≤ 1100000) (hnm : name.length ≤ 1100000) (hsi : s.id.length ≤ 1100000) (hsn : s.name.length ≤ 1100000) :
    WC Tryz.prog (tabOf Tryz.prog NT0) S0 3 [.agg [vl, vo], .agg (.lit (.string ⟨name.toArray⟩) :: .lit (.string ⟨id.toArray⟩) :: setC s)] H fun v _ => v = .lit (.bool true) := by
  refine WC_fn Tryz.func3 rfl rfl ?_
  have l1 := hl.one
  have l2 := hl.isSl
  have o1 := ho.one
  have o2 := ho.isSl
  obtain ⟨hp, hhp⟩ : ∃ hp, hp = H.push (.cells [vl, vo] 25) := ⟨_, rfl⟩
  have EP : Ext H.n H hp := hhp ▸ (Ext.refl _ _).push _ (Nat.le_refl _)
  have nP : hp.n = H.n + 1 := by rw [hhp, n_push]
  have P0 : hp.at H.n = some (.cells [vl, vo] 25) := hhp ▸ at_push_n _ _
  obtain ⟨hq, hhq⟩ : ∃ hq, hq = hp.push (.cells (.lit (.string ⟨name.toArray⟩) :: .lit (.string ⟨id.toArray⟩) :: setC s) 30) := ⟨_, rfl⟩
  have EQ : Ext hp.n hp hq := hhq ▸ (Ext.refl _ _).push _ (Nat.le_refl _)
  have nQ : hq.n = H.n + 2 := by rw [hhq, n_push, nP]
  have Q1 : hq.at hp.n = some (.cells (.lit (.string ⟨name.toArray⟩) :: .lit (.string ⟨id.toArray⟩) :: setC s) 30) := hhq ▸ at_push_n _ _
  have P1 := (EQ.2 _ (at_lt P0)).trans P0
  have E0 := EP.trans (EQ.mono EP.1)
  have LP := ld_at (T := tabOf Tryz.prog NT0) P1
  have lP := at_lt P1
  have lQ := at_lt Q1
  unfold setC at hhq ⊢
  simp only [core, zrA, zrS, zrM, zrL, zrE, reduceCtorEq, zrD, ziE, ziL, ziN, Tryz.ntmps3, l1, l2, o1, o2, ← hhp, ← hhq, LP, lP]
  refine (plain_x (hl.ext E0 (Nat.le_refl _)) (ho.ext E0 (Nat.le_refl _)) nl no).mono ?_
  rintro _ h2 ⟨E2, pa, pb, rfl, oa, ob⟩
  have m2 := E2.1
  have E02 := E0.trans (E2.mono E0.1)
  have P2 := (E2.2 _ lP).trans P1
  have Q2 := (E2.2 _ lQ).trans Q1
  have pa1 := oa.one
  have pa2 := oa.isSl
  have pb1 := ob.one
  have pb2 := ob.isSl
  obtain ⟨h3, hh3⟩ : ∃ h3, h3 = h2.push (.cells [pa, pb] 33) := ⟨_, rfl⟩
  have E3 : Ext h2.n h2 h3 := hh3 ▸ (Ext.refl _ _).push _ (Nat.le_refl _)
  have n3 : h3.n = h2.n + 1 := by rw [hh3, n_push]
  have C3 : h3.at h2.n = some (.cells [pa, pb] 33) := hh3 ▸ at_push_n _ _
  have Q3 := (E3.2 _ (at_lt Q2)).trans Q2
  have LQ3 := ld_at (T := tabOf Tryz.prog NT0) Q3
  have lQ3 := at_lt Q3
  obtain ⟨h4, hh4⟩ : ∃ h4, h4 = h3.push (.cells (setC s) 35) := ⟨_, rfl⟩
  have E4 : Ext h3.n h3 h4 := hh4 ▸ (Ext.refl _ _).push _ (Nat.le_refl _)
  have n4 : h4.n = h3.n + 1 := by rw [hh4, n_push]
  have D4 : h4.at h3.n = some (.cells (setC s) 35) := hh4 ▸ at_push_n _ _
  have E24 := E3.trans (E4.mono (by omega))
  have P4 := (E24.2 _ (at_lt P2)).trans P2
  have Q4 := (E24.2 _ (at_lt Q2)).trans Q2
  have C4 := (E4.2 _ (at_lt C3)).trans C3
  have E04 := E02.trans (E24.mono E02.1)
  have oa4 := oa.ext E24 (Nat.le_refl _)
  have ob4 := ob.ext E24 (Nat.le_refl _)
  -- what stands at h4 stands for good
  have fin : ∀ h : AH, Ext h4.n h4 h → (Ext H.n H h ∧ h.at H.n = some (.cells [vl, vo] 25) ∧ h.at hp.n = some (.cells (.lit (.string ⟨name.toArray⟩) :: .lit (.string ⟨id.toArray⟩) :: setC s) 30) ∧ h.at h2.n = some (.cells [pa, pb] 33) ∧ h.at h3.n = some (.cells (setC s) 35) ∧ IsSl RSet F h vl r.live ∧ IsSl RTx F h vo r.ops ∧ IsSl RSet (fun _ => True) h pa r.live ∧ IsSl RTx (fun _ => True) h pb r.ops) := fun h e =>
    ⟨E04.trans (e.mono E04.1), (e.2 _ (at_lt P4)).trans P4, (e.2 _ (at_lt Q4)).trans Q4, (e.2 _ (at_lt C4)).trans C4, (e.2 _ (at_lt D4)).trans D4, hl.ext (E04.trans (e.mono E04.1)) (Nat.le_refl _), ho.ext (E04.trans (e.mono E04.1)) (Nat.le_refl _), (oa4.ext e (Nat.le_refl _)).toSl flatSet fun _ _ => trivial, (ob4.ext e (Nat.le_refl _)).toSl flatTx fun _ _ => trivial⟩
  unfold setC at hh4 LQ3
  obtain ⟨EHa, PHa, QHa, CHa, DHa, lHa, oHa, plHa, poHa⟩ := fin h4 (Ext.refl _ _)
  have LPa := ld_at (T := tabOf Tryz.prog NT0) PHa
  have kPa := at_lt PHa
  have LQa := ld_at (T := tabOf Tryz.prog NT0) QHa
  have kQa := at_lt QHa
  have LCa := ld_at (T := tabOf Tryz.prog NT0) CHa
  have kCa := at_lt CHa
  have LDa := ld_at (T := tabOf Tryz.prog NT0) DHa
  have kDa := at_lt DHa
  unfold setC at LQa LDa
  simp only [core, zrA, zrS, zrM, zrL, zrE, reduceCtorEq, zrD, ziE, ziL, ziN, aundef, pa1, pa2, pb1, pb2, ← hh3, LQ3, lQ3, ← hh4, l1, l2, o1, o2, LPa, kPa, LQa, kQa, LCa, kCa, LDa, kDa]
  refine (Open_x lHa oHa hr hid).mono ?_
  rintro _ h5 ⟨E5, _, rfl, a, b, rfl, oa5, ob5⟩
  have m5 := E5.1
  have a1 := oa5.one
  have a2 := oa5.isSl
  have b1 := ob5.one
  have b2 := ob5.isSl
  obtain ⟨h6, hh6⟩ : ∃ h6, h6 = h5.push (.cells [a, b] 25) := ⟨_, rfl⟩
  have E6 : Ext h5.n h5 h6 := hh6 ▸ (Ext.refl _ _).push _ (Nat.le_refl _)
  have n6 : h6.n = h5.n + 1 := by rw [hh6, n_push]
  have A6 : h6.at h5.n = some (.cells [a, b] 25) := hh6 ▸ at_push_n _ _
  have G6 := E5.trans (E6.mono m5)
  have oa6 := oa5.ext E6 (Nat.le_refl _)
  have ob6 := ob5.ext E6 (Nat.le_refl _)
  obtain ⟨EHb, PHb, QHb, CHb, DHb, lHb, oHb, plHb, poHb⟩ := fin h6 G6
  have LPb := ld_at (T := tabOf Tryz.prog NT0) PHb
  have kPb := at_lt PHb
  have LQb := ld_at (T := tabOf Tryz.prog NT0) QHb
  have kQb := at_lt QHb
  have LCb := ld_at (T := tabOf Tryz.prog NT0) CHb
  have kCb := at_lt CHb
  have LDb := ld_at (T := tabOf Tryz.prog NT0) DHb
  have kDb := at_lt DHb
  unfold setC at LQb LDb
  simp only [core, zrA, zrS, zrM, zrL, zrE, reduceCtorEq, zrD, ziE, ziL, ziN, aundef, a1, a2, b1, b2, ← hh6, pa1, pa2, pb1, pb2, l1, l2, o1, o2, LPb, kPb, LQb, kQb, LCb, kCb, LDb, kDb]
  refine (OpenR_x plHb poHb hr hid).mono ?_
  rintro _ h7 ⟨E7, _, rfl, c, d, rfl, oc7, od7⟩
  have m7 := E7.1
  have c1 := oc7.one
  have c2 := oc7.isSl
  have d1 := od7.one
  have d2 := od7.isSl
  obtain ⟨h8, hh8⟩ : ∃ h8, h8 = h7.push (.cells [c, d] 33) := ⟨_, rfl⟩
  have E8 : Ext h7.n h7 h8 := hh8 ▸ (Ext.refl _ _).push _ (Nat.le_refl _)
  have n8 : h8.n = h7.n + 1 := by rw [hh8, n_push]
  have B8 : h8.at h7.n = some (.cells [c, d] 33) := hh8 ▸ at_push_n _ _
  have E68 := E7.trans (E8.mono m7)
  have A8 := (E68.2 _ (at_lt A6)).trans A6
  have G8 := G6.trans (E68.mono (by omega))
  have oa8 := oa6.ext E68 (Nat.le_refl _)
  have ob8 := ob6.ext E68 (Nat.le_refl _)
  have oc8 := oc7.ext E8 (Nat.le_refl _)
  have od8 := od7.ext E8 (Nat.le_refl _)
  have LA8 := ld_at (T := tabOf Tryz.prog NT0) A8
  have lA8 := at_lt A8
  have LB8 := ld_at (T := tabOf Tryz.prog NT0) B8
  have lB8 := at_lt B8
  have hint : ∀ x : Int, (x != x) = false := fun x => by simp
  have hbool : ∀ x : Bool, (x != x) = false := fun x => by cases x <;> rfl
  have hbq : ∀ x : Bool, (x == x) = true := fun x => by cases x <;> rfl
  simp only [core, zrA, zrS, zrM, zrL, zrE, reduceCtorEq, zrD, ziE, ziL, ziN, aundef, a1, a2, b1, b2, c1, c2, d1, d2, ← hh8, LA8, lA8, LB8, lB8, hint]
  refine (same_x (F := fun _ => True) (G := fun _ => True) (r := (openF r id).1) (oa8.toSl flatSet fun _ _ => trivial) (ob8.toSl flatTx fun _ _ => trivial) (oc8.toSl flatSet fun _ _ => trivial) (od8.toSl flatTx fun _ _ => trivial) sm_open.1 sm_open.2).mono ?_
  rintro _ h9 ⟨E9, rfl⟩
  have m9 := E9.1
  have A9 := (E9.2 _ lA8).trans A8
  have B9 := (E9.2 _ lB8).trans B8
  have G9 := G8.trans (E9.mono (by omega))
  clear oa5 ob5 oa6 ob6 oa8 ob8 oc7 od7 oc8 od8 LA8 LB8
  obtain ⟨EHpx, PHpx, QHpx, CHpx, DHpx, lHpx, oHpx, plHpx, poHpx⟩ := fin h9 G9
  have LPpx := ld_at (T := tabOf Tryz.prog NT0) PHpx
  have kPpx := at_lt PHpx
  have LQpx := ld_at (T := tabOf Tryz.prog NT0) QHpx
  have kQpx := at_lt QHpx
  have LCpx := ld_at (T := tabOf Tryz.prog NT0) CHpx
  have kCpx := at_lt CHpx
  have LDpx := ld_at (T := tabOf Tryz.prog NT0) DHpx
  have kDpx := at_lt DHpx
  unfold setC at LQpx LDpx
  have lAx := at_lt A9
  have lBx := at_lt B9
  simp only [core, zrA, zrS, zrM, zrL, zrE, reduceCtorEq, zrD, ziE, ziL, ziN, aundef, l1, l2, o1, o2, pa1, pa2, pb1, pb2, LPpx, kPpx, LQpx, kQpx, LCpx, kCpx, LDpx, kDpx]
  refine (Commit_x lHpx oHpx hr hsi (Nat.le_trans hsn (by decide))).mono ?_
  rintro _ kx1 ⟨Ex1, _, rfl, a, b, rfl, oa, ob⟩
  have mx1 := Ex1.1
  have a1 := oa.one
  have a2 := oa.isSl
  have b1 := ob.one
  have b2 := ob.isSl
  have Ax1 := (Ex1.2 _ lAx).trans A9
  have Bx1 := (Ex1.2 _ lBx).trans B9
  have lAx1 := at_lt Ax1
  obtain ⟨kx2, hhx2⟩ : ∃ kx2, kx2 = kx1.put h5.n (.cells [a, b] 25) := ⟨_, rfl⟩
  have nx2 : kx2.n = kx1.n := by rw [hhx2, n_put]
  have Gx1 := G9.trans (Ex1.mono (by omega))
  have Gx2 : Ext h4.n h4 kx2 := hhx2 ▸ Gx1.put _ (by omega)
  have Ax2 : kx2.at h5.n = some (.cells [a, b] 25) := hhx2 ▸ at_put_same _ lAx1
  have Bx2 : kx2.at h7.n = _ := (hhx2 ▸ at_put_ne _ (by omega) : kx2.at h7.n = kx1.at h7.n).trans Bx1
  have oa2 : OwnX setC 35 h9.n kx2 a 28 (commitF r s).1.live := hhx2 ▸ oa.putLt (by omega)
  have ob2 : OwnX txC 1 h9.n kx2 b 9 (commitF r s).1.ops := hhx2 ▸ ob.putLt (by omega)
  obtain ⟨EHqx, PHqx, QHqx, CHqx, DHqx, lHqx, oHqx, plHqx, poHqx⟩ := fin kx2 Gx2
  have LPqx := ld_at (T := tabOf Tryz.prog NT0) PHqx
  have kPqx := at_lt PHqx
  have LQqx := ld_at (T := tabOf Tryz.prog NT0) QHqx
  have kQqx := at_lt QHqx
  have LCqx := ld_at (T := tabOf Tryz.prog NT0) CHqx
  have kCqx := at_lt CHqx
  have LDqx := ld_at (T := tabOf Tryz.prog NT0) DHqx
  have kDqx := at_lt DHqx
  unfold setC at LQqx LDqx
  have lAx2 := at_lt Ax2
  have lBx2 := at_lt Bx2
  simp only [core, zrA, zrS, zrM, zrL, zrE, reduceCtorEq, zrD, ziE, ziL, ziN, aundef, a1, a2, b1, b2, Ax1, lAx1, ← hhx2, l1, l2, o1, o2, pa1, pa2, pb1, pb2, LPqx, kPqx, LQqx, kQqx, LCqx, kCqx, LDqx, kDqx]
  refine (CommitR_x plHqx poHqx hr hsi (Nat.le_trans hsn (by decide))).mono ?_
  rintro _ kx3 ⟨Ex3, _, rfl, c, d, rfl, oc, od⟩
  have mx3 := Ex3.1
  have c1 := oc.one
  have c2 := oc.isSl
  have d1 := od.one
  have d2 := od.isSl
  have Ax3 := (Ex3.2 _ lAx2).trans Ax2
  have Bx3 := (Ex3.2 _ lBx2).trans Bx2
  have lBx3 := at_lt Bx3
  have oa3 := oa2.ext Ex3 (Nat.le_refl _)
  have ob3 := ob2.ext Ex3 (Nat.le_refl _)
  obtain ⟨kx4, hhx4⟩ : ∃ kx4, kx4 = kx3.put h7.n (.cells [c, d] 33) := ⟨_, rfl⟩
  have nx4 : kx4.n = kx3.n := by rw [hhx4, n_put]
  have Gx3 := Gx2.trans (Ex3.mono (by omega))
  have Gx4 : Ext h4.n h4 kx4 := hhx4 ▸ Gx3.put _ (by omega)
  have Bx4 : kx4.at h7.n = some (.cells [c, d] 33) := hhx4 ▸ at_put_same _ lBx3
  have Ax4 : kx4.at h5.n = _ := (hhx4 ▸ at_put_ne _ (by omega) : kx4.at h5.n = kx3.at h5.n).trans Ax3
  have oa4' : OwnX setC 35 h9.n kx4 a 28 (commitF r s).1.live := hhx4 ▸ oa3.putLt (by omega)
  have ob4' : OwnX txC 1 h9.n kx4 b 9 (commitF r s).1.ops := hhx4 ▸ ob3.putLt (by omega)
  have oc4 : OwnX setC 35 kx2.n kx4 c 35 (commitF r s).1.live := hhx4 ▸ oc.putLt (by omega)
  have od4 : OwnX txC 1 kx2.n kx4 d 9 (commitF r s).1.ops := hhx4 ▸ od.putLt (by omega)
  have LAx4 := ld_at (T := tabOf Tryz.prog NT0) Ax4
  have lAx4 := at_lt Ax4
  have LBx4 := ld_at (T := tabOf Tryz.prog NT0) Bx4
  have lBx4 := at_lt Bx4
  simp only [core, zrA, zrS, zrM, zrL, zrE, reduceCtorEq, zrD, ziE, ziL, ziN, aundef, a1, a2, b1, b2, c1, c2, d1, d2, Bx3, lBx3, ← hhx4, LAx4, lAx4, LBx4, lBx4, hint, hbool, hbq]
  refine (same_x (F := fun _ => True) (G := fun _ => True) (r := (commitF r s).1) (oa4'.toSl flatSet fun _ _ => trivial) (ob4'.toSl flatTx fun _ _ => trivial) (oc4.toSl flatSet fun _ _ => trivial) (od4.toSl flatTx fun _ _ => trivial) sm_commit.1 sm_commit.2).mono ?_
  rintro _ kx5 ⟨Ex5, rfl⟩
  have mx5 := Ex5.1
  have Akx5 := (Ex5.2 _ lAx4).trans Ax4
  have Bkx5 := (Ex5.2 _ lBx4).trans Bx4
  have Gkx5 := Gx4.trans (Ex5.mono (by omega))
  clear oa ob oa2 ob2 oa3 ob3 oa4' ob4' oc od oc4 od4 LAx4 LBx4
  obtain ⟨EHpy, PHpy, QHpy, CHpy, DHpy, lHpy, oHpy, plHpy, poHpy⟩ := fin kx5 Gkx5
  have LPpy := ld_at (T := tabOf Tryz.prog NT0) PHpy
  have kPpy := at_lt PHpy
  have LQpy := ld_at (T := tabOf Tryz.prog NT0) QHpy
  have kQpy := at_lt QHpy
  have LCpy := ld_at (T := tabOf Tryz.prog NT0) CHpy
  have kCpy := at_lt CHpy
  have LDpy := ld_at (T := tabOf Tryz.prog NT0) DHpy
  have kDpy := at_lt DHpy
  unfold setC at LQpy LDpy
  have lAy := at_lt Akx5
  have lBy := at_lt Bkx5
  simp only [core, zrA, zrS, zrM, zrL, zrE, reduceCtorEq, zrD, ziE, ziL, ziN, aundef, l1, l2, o1, o2, pa1, pa2, pb1, pb2, LPpy, kPpy, LQpy, kQpy, LCpy, kCpy, LDpy, kDpy]
  refine (Delete_x lHpy oHpy hr (Nat.le_trans hnm (by decide))).mono ?_
  rintro _ ky1 ⟨Ey1, _, rfl, a, b, rfl, oa, ob⟩
  have my1 := Ey1.1
  have a1 := oa.one
  have a2 := oa.isSl
  have b1 := ob.one
  have b2 := ob.isSl
  have Ay1 := (Ey1.2 _ lAy).trans Akx5
  have By1 := (Ey1.2 _ lBy).trans Bkx5
  have lAy1 := at_lt Ay1
  obtain ⟨ky2, hhy2⟩ : ∃ ky2, ky2 = ky1.put h5.n (.cells [a, b] 25) := ⟨_, rfl⟩
  have ny2 : ky2.n = ky1.n := by rw [hhy2, n_put]
  have Gy1 := Gkx5.trans (Ey1.mono (by omega))
  have Gy2 : Ext h4.n h4 ky2 := hhy2 ▸ Gy1.put _ (by omega)
  have Ay2 : ky2.at h5.n = some (.cells [a, b] 25) := hhy2 ▸ at_put_same _ lAy1
  have By2 : ky2.at h7.n = _ := (hhy2 ▸ at_put_ne _ (by omega) : ky2.at h7.n = ky1.at h7.n).trans By1
  have oa2 : OwnX setC 35 kx5.n ky2 a 28 (deleteF r name).1.live := hhy2 ▸ oa.putLt (by omega)
  have ob2 : OwnX txC 1 kx5.n ky2 b 9 (deleteF r name).1.ops := hhy2 ▸ ob.putLt (by omega)
  obtain ⟨EHqy, PHqy, QHqy, CHqy, DHqy, lHqy, oHqy, plHqy, poHqy⟩ := fin ky2 Gy2
  have LPqy := ld_at (T := tabOf Tryz.prog NT0) PHqy
  have kPqy := at_lt PHqy
  have LQqy := ld_at (T := tabOf Tryz.prog NT0) QHqy
  have kQqy := at_lt QHqy
  have LCqy := ld_at (T := tabOf Tryz.prog NT0) CHqy
  have kCqy := at_lt CHqy
  have LDqy := ld_at (T := tabOf Tryz.prog NT0) DHqy
  have kDqy := at_lt DHqy
  unfold setC at LQqy LDqy
  have lAy2 := at_lt Ay2
  have lBy2 := at_lt By2
  simp only [core, zrA, zrS, zrM, zrL, zrE, reduceCtorEq, zrD, ziE, ziL, ziN, aundef, a1, a2, b1, b2, Ay1, lAy1, ← hhy2, l1, l2, o1, o2, pa1, pa2, pb1, pb2, LPqy, kPqy, LQqy, kQqy, LCqy, kCqy, LDqy, kDqy]
  refine (DeleteR_x plHqy poHqy hr (Nat.le_trans hnm (by decide))).mono ?_
  rintro _ ky3 ⟨Ey3, _, rfl, c, d, rfl, oc, od⟩
  have my3 := Ey3.1
  have c1 := oc.one
  have c2 := oc.isSl
  have d1 := od.one
  have d2 := od.isSl
  have Ay3 := (Ey3.2 _ lAy2).trans Ay2
  have By3 := (Ey3.2 _ lBy2).trans By2
  have lBy3 := at_lt By3
  have oa3 := oa2.ext Ey3 (Nat.le_refl _)
  have ob3 := ob2.ext Ey3 (Nat.le_refl _)
  obtain ⟨ky4, hhy4⟩ : ∃ ky4, ky4 = ky3.put h7.n (.cells [c, d] 33) := ⟨_, rfl⟩
  have ny4 : ky4.n = ky3.n := by rw [hhy4, n_put]
  have Gy3 := Gy2.trans (Ey3.mono (by omega))
  have Gy4 : Ext h4.n h4 ky4 := hhy4 ▸ Gy3.put _ (by omega)
  have By4 : ky4.at h7.n = some (.cells [c, d] 33) := hhy4 ▸ at_put_same _ lBy3
  have Ay4 : ky4.at h5.n = _ := (hhy4 ▸ at_put_ne _ (by omega) : ky4.at h5.n = ky3.at h5.n).trans Ay3
  have oa4' : OwnX setC 35 kx5.n ky4 a 28 (deleteF r name).1.live := hhy4 ▸ oa3.putLt (by omega)
  have ob4' : OwnX txC 1 kx5.n ky4 b 9 (deleteF r name).1.ops := hhy4 ▸ ob3.putLt (by omega)
  have oc4 : OwnX setC 35 ky2.n ky4 c 35 (deleteF r name).1.live := hhy4 ▸ oc.putLt (by omega)
  have od4 : OwnX txC 1 ky2.n ky4 d 9 (deleteF r name).1.ops := hhy4 ▸ od.putLt (by omega)
  have LAy4 := ld_at (T := tabOf Tryz.prog NT0) Ay4
  have lAy4 := at_lt Ay4
  have LBy4 := ld_at (T := tabOf Tryz.prog NT0) By4
  have lBy4 := at_lt By4
  simp only [core, zrA, zrS, zrM, zrL, zrE, reduceCtorEq, zrD, ziE, ziL, ziN, aundef, a1, a2, b1, b2, c1, c2, d1, d2, By3, lBy3, ← hhy4, LAy4, lAy4, LBy4, lBy4, hint, hbool, hbq]
  refine (same_x (F := fun _ => True) (G := fun _ => True) (r := (deleteF r name).1) (oa4'.toSl flatSet fun _ _ => trivial) (ob4'.toSl flatTx fun _ _ => trivial) (oc4.toSl flatSet fun _ _ => trivial) (od4.toSl flatTx fun _ _ => trivial) sm_delete.1 sm_delete.2).mono ?_
  rintro _ ky5 ⟨Ey5, rfl⟩
  have my5 := Ey5.1
  have Aky5 := (Ey5.2 _ lAy4).trans Ay4
  have Bky5 := (Ey5.2 _ lBy4).trans By4
  have Gky5 := Gy4.trans (Ey5.mono (by omega))
  clear oa ob oa2 ob2 oa3 ob3 oa4' ob4' oc od oc4 od4 LAy4 LBy4
  obtain ⟨EHpz, PHpz, QHpz, CHpz, DHpz, lHpz, oHpz, plHpz, poHpz⟩ := fin ky5 Gky5
  have LPpz := ld_at (T := tabOf Tryz.prog NT0) PHpz
  have kPpz := at_lt PHpz
  have LQpz := ld_at (T := tabOf Tryz.prog NT0) QHpz
  have kQpz := at_lt QHpz
  have LCpz := ld_at (T := tabOf Tryz.prog NT0) CHpz
  have kCpz := at_lt CHpz
  have LDpz := ld_at (T := tabOf Tryz.prog NT0) DHpz
  have kDpz := at_lt DHpz
  unfold setC at LQpz LDpz
  have lAz := at_lt Aky5
  have lBz := at_lt Bky5
  simp only [core, zrA, zrS, zrM, zrL, zrE, reduceCtorEq, zrD, ziE, ziL, ziN, aundef, l1, l2, o1, o2, pa1, pa2, pb1, pb2, LPpz, kPpz, LQpz, kQpz, LCpz, kCpz, LDpz, kDpz]
  refine (Close_x lHpz oHpz hr).mono ?_
  rintro _ kz1 ⟨Ez1, _, rfl, a, b, rfl, oa, ob⟩
  have mz1 := Ez1.1
  have a1 := oa.one
  have a2 := oa.isSl
  have b1 := ob.one
  have b2 := ob.isSl
  have Az1 := (Ez1.2 _ lAz).trans Aky5
  have Bz1 := (Ez1.2 _ lBz).trans Bky5
  have lAz1 := at_lt Az1
  obtain ⟨kz2, hhz2⟩ : ∃ kz2, kz2 = kz1.put h5.n (.cells [a, b] 25) := ⟨_, rfl⟩
  have nz2 : kz2.n = kz1.n := by rw [hhz2, n_put]
  have Gz1 := Gky5.trans (Ez1.mono (by omega))
  have Gz2 : Ext h4.n h4 kz2 := hhz2 ▸ Gz1.put _ (by omega)
  have Az2 : kz2.at h5.n = some (.cells [a, b] 25) := hhz2 ▸ at_put_same _ lAz1
  have Bz2 : kz2.at h7.n = _ := (hhz2 ▸ at_put_ne _ (by omega) : kz2.at h7.n = kz1.at h7.n).trans Bz1
  have oa2 : OwnX setC 35 ky5.n kz2 a 28 (closeF r id).1.live := hhz2 ▸ oa.putLt (by omega)
  have ob2 : OwnX txC 1 ky5.n kz2 b 9 (closeF r id).1.ops := hhz2 ▸ ob.putLt (by omega)
  obtain ⟨EHqz, PHqz, QHqz, CHqz, DHqz, lHqz, oHqz, plHqz, poHqz⟩ := fin kz2 Gz2
  have LPqz := ld_at (T := tabOf Tryz.prog NT0) PHqz
  have kPqz := at_lt PHqz
  have LQqz := ld_at (T := tabOf Tryz.prog NT0) QHqz
  have kQqz := at_lt QHqz
  have LCqz := ld_at (T := tabOf Tryz.prog NT0) CHqz
  have kCqz := at_lt CHqz
  have LDqz := ld_at (T := tabOf Tryz.prog NT0) DHqz
  have kDqz := at_lt DHqz
  unfold setC at LQqz LDqz
  have lAz2 := at_lt Az2
  have lBz2 := at_lt Bz2
  simp only [core, zrA, zrS, zrM, zrL, zrE, reduceCtorEq, zrD, ziE, ziL, ziN, aundef, a1, a2, b1, b2, Az1, lAz1, ← hhz2, l1, l2, o1, o2, pa1, pa2, pb1, pb2, LPqz, kPqz, LQqz, kQqz, LCqz, kCqz, LDqz, kDqz]
  refine (CloseR_x plHqz poHqz hr).mono ?_
  rintro _ kz3 ⟨Ez3, _, rfl, c, d, rfl, oc, od⟩
  have mz3 := Ez3.1
  have c1 := oc.one
  have c2 := oc.isSl
  have d1 := od.one
  have d2 := od.isSl
  have Az3 := (Ez3.2 _ lAz2).trans Az2
  have Bz3 := (Ez3.2 _ lBz2).trans Bz2
  have lBz3 := at_lt Bz3
  have oa3 := oa2.ext Ez3 (Nat.le_refl _)
  have ob3 := ob2.ext Ez3 (Nat.le_refl _)
  obtain ⟨kz4, hhz4⟩ : ∃ kz4, kz4 = kz3.put h7.n (.cells [c, d] 33) := ⟨_, rfl⟩
  have nz4 : kz4.n = kz3.n := by rw [hhz4, n_put]
  have Gz3 := Gz2.trans (Ez3.mono (by omega))
  have Gz4 : Ext h4.n h4 kz4 := hhz4 ▸ Gz3.put _ (by omega)
  have Bz4 : kz4.at h7.n = some (.cells [c, d] 33) := hhz4 ▸ at_put_same _ lBz3
  have Az4 : kz4.at h5.n = _ := (hhz4 ▸ at_put_ne _ (by omega) : kz4.at h5.n = kz3.at h5.n).trans Az3
  have oa4' : OwnX setC 35 ky5.n kz4 a 28 (closeF r id).1.live := hhz4 ▸ oa3.putLt (by omega)
  have ob4' : OwnX txC 1 ky5.n kz4 b 9 (closeF r id).1.ops := hhz4 ▸ ob3.putLt (by omega)
  have oc4 : OwnX setC 35 kz2.n kz4 c 35 (closeF r id).1.live := hhz4 ▸ oc.putLt (by omega)
  have od4 : OwnX txC 1 kz2.n kz4 d 9 (closeF r id).1.ops := hhz4 ▸ od.putLt (by omega)
  have LAz4 := ld_at (T := tabOf Tryz.prog NT0) Az4
  have lAz4 := at_lt Az4
  have LBz4 := ld_at (T := tabOf Tryz.prog NT0) Bz4
  have lBz4 := at_lt Bz4
  simp only [core, zrA, zrS, zrM, zrL, zrE, reduceCtorEq, zrD, ziE, ziL, ziN, aundef, a1, a2, b1, b2, c1, c2, d1, d2, Bz3, lBz3, ← hhz4, LAz4, lAz4, LBz4, lBz4, hint, hbool, hbq]
  refine (same_x (F := fun _ => True) (G := fun _ => True) (r := (closeF r id).1) (oa4'.toSl flatSet fun _ _ => trivial) (ob4'.toSl flatTx fun _ _ => trivial) (oc4.toSl flatSet fun _ _ => trivial) (od4.toSl flatTx fun _ _ => trivial) sm_close.1 sm_close.2).mono ?_
  rintro _ kz5 ⟨Ez5, rfl⟩
  have mz5 := Ez5.1
  have Akz5 := (Ez5.2 _ lAz4).trans Az4
  have Bkz5 := (Ez5.2 _ lBz4).trans Bz4
  have Gkz5 := Gz4.trans (Ez5.mono (by omega))
  clear oa ob oa2 ob2 oa3 ob3 oa4' ob4' oc od oc4 od4 LAz4 LBz4
  obtain ⟨EHf, PHf, QHf, CHf, DHf, lHf, oHf, plHf, poHf⟩ := fin kz5 Gkz5
  have LPf := ld_at (T := tabOf Tryz.prog NT0) PHf
  have kPf := at_lt PHf
  have LQf := ld_at (T := tabOf Tryz.prog NT0) QHf
  have kQf := at_lt QHf
  have LCf := ld_at (T := tabOf Tryz.prog NT0) CHf
  have kCf := at_lt CHf
  have LDf := ld_at (T := tabOf Tryz.prog NT0) DHf
  have kDf := at_lt DHf
  unfold setC at LQf LDf
  simp only [core, zrA, zrS, zrM, zrL, zrE, reduceCtorEq, zrD, ziE, ziL, ziN, aundef, l1, l2, o1, o2, pa1, pa2, pb1, pb2, LPf, kPf, LQf, kQf, LCf, kCf, LDf, kDf]
  refine (Find_x lHf oHf hr).mono ?_
  rintro _ f1 ⟨Ef1, rfl⟩
  have mf1 := Ef1.1
  obtain ⟨y, hy⟩ : ∃ y, y = (findF r name).getD set0 := ⟨_, rfl⟩
  rw [← hy]
  obtain ⟨f2, hf2⟩ : ∃ f2, f2 = f1.push (.cells (setC y) 28) := ⟨_, rfl⟩
  have Ef2 : Ext f1.n f1 f2 := hf2 ▸ (Ext.refl _ _).push _ (Nat.le_refl _)
  have nf2 : f2.n = f1.n + 1 := by rw [hf2, n_push]
  have X2 : f2.at f1.n = some (.cells (setC y) 28) := hf2 ▸ at_push_n _ _
  have Gf2 := Gkz5.trans ((Ef1.trans (Ef2.mono mf1)).mono (by omega))
  unfold setC at hf2 ⊢
  obtain ⟨EHg, PHg, QHg, CHg, DHg, lHg, oHg, plHg, poHg⟩ := fin f2 Gf2
  have LPg := ld_at (T := tabOf Tryz.prog NT0) PHg
  have kPg := at_lt PHg
  have LQg := ld_at (T := tabOf Tryz.prog NT0) QHg
  have kQg := at_lt QHg
  have LCg := ld_at (T := tabOf Tryz.prog NT0) CHg
  have kCg := at_lt CHg
  have LDg := ld_at (T := tabOf Tryz.prog NT0) DHg
  have kDg := at_lt DHg
  unfold setC at LQg LDg
  simp only [core, zrA, zrS, zrM, zrL, zrE, reduceCtorEq, zrD, ziE, ziL, ziN, aundef, ← hf2, l1, l2, o1, o2, pa1, pa2, pb1, pb2, LPg, kPg, LQg, kQg, LCg, kCg, LDg, kDg]
  refine (FindR_x plHg poHg hr).mono ?_
  rintro _ f3 ⟨Ef3, rfl⟩
  have mf3 := Ef3.1
  rw [← hy]
  obtain ⟨f4, hf4⟩ : ∃ f4, f4 = f3.push (.cells (setC y) 35) := ⟨_, rfl⟩
  have Ef4 : Ext f3.n f3 f4 := hf4 ▸ (Ext.refl _ _).push _ (Nat.le_refl _)
  have nf4 : f4.n = f3.n + 1 := by rw [hf4, n_push]
  have Y4 : f4.at f3.n = some (.cells (setC y) 35) := hf4 ▸ at_push_n _ _
  have X4 := (Ef4.2 _ (by have := at_lt X2; omega)).trans ((Ef3.2 _ (at_lt X2)).trans X2)
  have Gf4 := Gf2.trans ((Ef3.trans (Ef4.mono mf3)).mono (by omega))
  have LX4 := ld_at (T := tabOf Tryz.prog NT0) X4
  have lX4 := at_lt X4
  have LY4 := ld_at (T := tabOf Tryz.prog NT0) Y4
  have lY4 := at_lt Y4
  unfold setC at hf4 LX4 LY4 ⊢
  obtain ⟨EHj, PHj, QHj, CHj, DHj, lHj, oHj, plHj, poHj⟩ := fin f4 Gf4
  have LPj := ld_at (T := tabOf Tryz.prog NT0) PHj
  have kPj := at_lt PHj
  have LQj := ld_at (T := tabOf Tryz.prog NT0) QHj
  have kQj := at_lt QHj
  have LCj := ld_at (T := tabOf Tryz.prog NT0) CHj
  have kCj := at_lt CHj
  have LDj := ld_at (T := tabOf Tryz.prog NT0) DHj
  have kDj := at_lt DHj
  unfold setC at LQj LDj
  have hbe : ((findF r name).isSome == (findF r name).isSome) = true := by simp
  have hse : ∀ x : List UInt8, (x == x) = true := fun x => by simp
  have hie : ∀ x : Int, (x == x) = true := fun x => by simp
  have hbq : ∀ x : Bool, (x == x) = true := fun x => by cases x <;> rfl
  simp only [core, zrA, zrS, zrM, zrL, zrE, reduceCtorEq, zrD, ziE, ziL, ziN, aundef, ← hf4]
  rw [WB_regionD (0 :: 1 :: 2 :: 3 :: 4 :: 5 :: 6 :: 7 :: 8 :: 9 :: 10 :: 11 :: 12 :: 13 :: 14 :: 15 :: 16 :: 17 :: 18 :: 19 :: 20 :: 21 :: 22 :: 23 :: 24 :: 25 :: 26 :: 27 :: 28 :: 29 :: 30 :: 31 :: 32 :: 34 :: 33 :: 35 :: 36 :: 37 :: 38 :: 39 :: 40 :: 41 :: 43 :: 44 :: 45 :: 42 :: 46 :: 47 :: 48 :: 49 :: 50 :: 52 :: 51 :: 53 :: 54 :: 55 :: 56 :: 57 :: 58 :: 59 :: 60 :: 61 :: 62 :: 63 :: 64 :: []) 355387120553178850188312489711147359418039070586138277075428333086047277361214742371071550824936401009658095286687031654369783425284417098789480805719104592071919727831806449665290018293233477111395410748870974469230769958320877163766699958745950226024143526433287235666622602391369909824980909195207637479597936830081206478623577564334241737932590196984555088599513454361117849528913142757655437627737467589091115019059826254142257713572339380915111908089503659706867860568019817904492444862248807557632282737426699017880251949447270352645886021968602197452642630214994469755032044280511505427781337047697354495549485796379226247167954721847971258462500384101745636801760915335380996937599543970207891270061879049513280514341006621635125735560751638817948734283646028517992358693913708133284584028973166963460383697741711264551655079780845151559425692673463302754941001883535608574428893892351231847388889060561028557202722914751509930444482150903833366298498153408263643509300885420789541222823322948489374787727303595334761548473774623319561491088477713719798746865401896527366147131553688834014520431889255087758006788301671110941687675218222443647622156203138316064740809302164556396372919821578956468540388830253768380541742404158049875979839724939472628675749347328 (by kernel_rfl)]
  repeat (first | ((with_reducible refine WDM_cons ?_; simp only [dw1, List.append]; try simp only [dw2, zrA, zrM, zrR, zrO, zrE]); simp only [core, zrA, zrS, zrM, zrL, zrE, reduceCtorEq, zrD, ziE, ziL, ziN, cored, aundef, LX4, lX4, LY4, lY4, l1, l2, o1, o2, pa1, pa2, pb1, pb2, LPj, kPj, LQj, kQj, LCj, kCj, LDj, kDj, pur_seq, hse, hie, hbq, hbe, a_eqSha y.sha]) | simp only [core, zrA, zrS, zrM, zrL, zrE, reduceCtorEq, zrD, ziE, ziL, ziN, cored, aundef, LX4, lX4, LY4, lY4, l1, l2, o1, o2, pa1, pa2, pb1, pb2, LPj, kPj, LQj, kQj, LCj, kCj, LDj, kDj, pur_seq, hse, hie, hbq, hbe, a_eqSha y.sha])
  refine (Names_x lHj oHj hr).mono ?_
  rintro n1 g1 ⟨Eg1, in1⟩
  have mg1 := Eg1.1
  have Gg1 := Gf4.trans (Eg1.mono (by omega))
  have i1 := in1.one
  have i2 := in1.isSl
  obtain ⟨EHk, PHk, QHk, CHk, DHk, lHk, oHk, plHk, poHk⟩ := fin g1 Gg1
  have LPk := ld_at (T := tabOf Tryz.prog NT0) PHk
  have kPk := at_lt PHk
  have LQk := ld_at (T := tabOf Tryz.prog NT0) QHk
  have kQk := at_lt QHk
  have LCk := ld_at (T := tabOf Tryz.prog NT0) CHk
  have kCk := at_lt CHk
  have LDk := ld_at (T := tabOf Tryz.prog NT0) DHk
  have kDk := at_lt DHk
  unfold setC at LQk LDk
  repeat (first | ((with_reducible refine WDM_cons ?_; simp only [dw1, List.append]; try simp only [dw2, zrA, zrM, zrR, zrO, zrE]); simp only [core, zrA, zrS, zrM, zrL, zrE, reduceCtorEq, zrD, ziE, ziL, ziN, cored, aundef, l1, l2, o1, o2, pa1, pa2, pb1, pb2, LPk, kPk, LQk, kQk, LCk, kCk, LDk, kDk, i1, i2]) | simp only [core, zrA, zrS, zrM, zrL, zrE, reduceCtorEq, zrD, ziE, ziL, ziN, cored, aundef, l1, l2, o1, o2, pa1, pa2, pb1, pb2, LPk, kPk, LQk, kQk, LCk, kCk, LDk, kDk, i1, i2])
  refine (NamesR_x plHk poHk hr).mono ?_
  rintro n2 g2 ⟨Eg2, in2⟩
  have mg2 := Eg2.1
  have Gg2 := Gg1.trans (Eg2.mono (by omega))
  have j1 := in2.one
  have j2 := in2.isSl
  have in1' := in1.ext Eg2 (Nat.le_refl _)
  obtain ⟨EHm, PHm, QHm, CHm, DHm, lHm, oHm, plHm, poHm⟩ := fin g2 Gg2
  have LPm := ld_at (T := tabOf Tryz.prog NT0) PHm
  have kPm := at_lt PHm
  have LQm := ld_at (T := tabOf Tryz.prog NT0) QHm
  have kQm := at_lt QHm
  have LCm := ld_at (T := tabOf Tryz.prog NT0) CHm
  have kCm := at_lt CHm
  have LDm := ld_at (T := tabOf Tryz.prog NT0) DHm
  have kDm := at_lt DHm
  unfold setC at LQm LDm
  repeat (first | ((with_reducible refine WDM_cons ?_; simp only [dw1, List.append]; try simp only [dw2, zrA, zrM, zrR, zrO, zrE]); simp only [core, zrA, zrS, zrM, zrL, zrE, reduceCtorEq, zrD, ziE, ziL, ziN, cored, aundef, l1, l2, o1, o2, pa1, pa2, pb1, pb2, LPm, kPm, LQm, kQm, LCm, kCm, LDm, kDm, i1, i2, j1, j2]) | simp only [core, zrA, zrS, zrM, zrL, zrE, reduceCtorEq, zrD, ziE, ziL, ziN, cored, aundef, l1, l2, o1, o2, pa1, pa2, pb1, pb2, LPm, kPm, LQm, kQm, LCm, kCm, LDm, kDm, i1, i2, j1, j2])
  refine (texts_x in1' in2 (by unfold namesF; split; rw [List.length_map]; omega; simp)).mono ?_
  rintro _ g3 ⟨rfl, q5⟩
  replace q5 := q5.symm
  subst q5
  repeat (first | ((with_reducible refine WDM_cons ?_; simp only [dw1, List.append]; try simp only [dw2, zrA, zrM, zrR, zrO, zrE]); simp only [core, zrA, zrS, zrM, zrL, zrE, reduceCtorEq, zrD, ziE, ziL, ziN, cored, aundef, l1, l2, o1, o2, pa1, pa2, pb1, pb2, LPm, kPm, LQm, kQm, LCm, kCm, LDm, kDm, i1, i2, j1, j2]) | simp only [core, zrA, zrS, zrM, zrL, zrE, reduceCtorEq, zrD, ziE, ziL, ziN, cored, aundef, l1, l2, o1, o2, pa1, pa2, pb1, pb2, LPm, kPm, LQm, kQm, LCm, kCm, LDm, kDm, i1, i2, j1, j2])
  refine (Knows_x (id := id) lHm oHm hr).mono ?_
  rintro _ g4 ⟨Eg4, rfl⟩
  have mg4 := Eg4.1
  have Gg4 := Gg2.trans (Eg4.mono (by omega))
  obtain ⟨EHn, PHn, QHn, CHn, DHn, lHn, oHn, plHn, poHn⟩ := fin g4 Gg4
  have LPn := ld_at (T := tabOf Tryz.prog NT0) PHn
  have kPn := at_lt PHn
  have LQn := ld_at (T := tabOf Tryz.prog NT0) QHn
  have kQn := at_lt QHn
  have LCn := ld_at (T := tabOf Tryz.prog NT0) CHn
  have kCn := at_lt CHn
  have LDn := ld_at (T := tabOf Tryz.prog NT0) DHn
  have kDn := at_lt DHn
  unfold setC at LQn LDn
  repeat (first | ((with_reducible refine WDM_cons ?_; simp only [dw1, List.append]; try simp only [dw2, zrA, zrM, zrR, zrO, zrE]); simp only [core, zrA, zrS, zrM, zrL, zrE, reduceCtorEq, zrD, ziE, ziL, ziN, cored, aundef, l1, l2, o1, o2, pa1, pa2, pb1, pb2, LPn, kPn, LQn, kQn, LCn, kCn, LDn, kDn]) | simp only [core, zrA, zrS, zrM, zrL, zrE, reduceCtorEq, zrD, ziE, ziL, ziN, cored, aundef, l1, l2, o1, o2, pa1, pa2, pb1, pb2, LPn, kPn, LQn, kQn, LCn, kCn, LDn, kDn])
  refine (KnowsR_x (id := id) plHn poHn hr).mono ?_
  rintro _ g5 ⟨Eg5, rfl⟩
  have mg5 := Eg5.1
  have Gg5 := Gg4.trans (Eg5.mono (by omega))
  obtain ⟨EHo, PHo, QHo, CHo, DHo, lHo, oHo, plHo, poHo⟩ := fin g5 Gg5
  have LPo := ld_at (T := tabOf Tryz.prog NT0) PHo
  have kPo := at_lt PHo
  have LQo := ld_at (T := tabOf Tryz.prog NT0) QHo
  have kQo := at_lt QHo
  have LCo := ld_at (T := tabOf Tryz.prog NT0) CHo
  have kCo := at_lt CHo
  have LDo := ld_at (T := tabOf Tryz.prog NT0) DHo
  have kDo := at_lt DHo
  unfold setC at LQo LDo
  repeat (first | ((with_reducible refine WDM_cons ?_; simp only [dw1, List.append]; try simp only [dw2, zrA, zrM, zrR, zrO, zrE]); simp only [core, zrA, zrS, zrM, zrL, zrE, reduceCtorEq, zrD, ziE, ziL, ziN, cored, aundef, l1, l2, o1, o2, pa1, pa2, pb1, pb2, LPo, kPo, LQo, kQo, LCo, kCo, LDo, kDo, hbq]) | simp only [core, zrA, zrS, zrM, zrL, zrE, reduceCtorEq, zrD, ziE, ziL, ziN, cored, aundef, l1, l2, o1, o2, pa1, pa2, pb1, pb2, LPo, kPo, LQo, kQo, LCo, kCo, LDo, kDo, hbq])
  refine (CheckRoot_x lHo oHo hr.o hr.s).mono ?_
  rintro _ g6 ⟨Eg6, rfl⟩
  have mg6 := Eg6.1
  have Gg6 := Gg5.trans (Eg6.mono (by omega))
  obtain ⟨EHr, PHr, QHr, CHr, DHr, lHr, oHr, plHr, poHr⟩ := fin g6 Gg6
  have LPr := ld_at (T := tabOf Tryz.prog NT0) PHr
  have kPr := at_lt PHr
  have LQr := ld_at (T := tabOf Tryz.prog NT0) QHr
  have kQr := at_lt QHr
  have LCr := ld_at (T := tabOf Tryz.prog NT0) CHr
  have kCr := at_lt CHr
  have LDr := ld_at (T := tabOf Tryz.prog NT0) DHr
  have kDr := at_lt DHr
  unfold setC at LQr LDr
  repeat (first | ((with_reducible refine WDM_cons ?_; simp only [dw1, List.append]; try simp only [dw2, zrA, zrM, zrR, zrO, zrE]); simp only [core, zrA, zrS, zrM, zrL, zrE, reduceCtorEq, zrD, ziE, ziL, ziN, cored, aundef, l1, l2, o1, o2, pa1, pa2, pb1, pb2, LPr, kPr, LQr, kQr, LCr, kCr, LDr, kDr, hbq]) | simp only [core, zrA, zrS, zrM, zrL, zrE, reduceCtorEq, zrD, ziE, ziL, ziN, cored, aundef, l1, l2, o1, o2, pa1, pa2, pb1, pb2, LPr, kPr, LQr, kQr, LCr, kCr, LDr, kDr, hbq])
  refine (CheckRootR_x plHr poHr hr).mono ?_
  rintro _ g7 ⟨Eg7, rfl⟩
  have mg7 := Eg7.1
  have Gg7 := Gg6.trans (Eg7.mono (by omega))
  obtain ⟨EHs, PHs, QHs, CHs, DHs, lHs, oHs, plHs, poHs⟩ := fin g7 Gg7
  have LPs := ld_at (T := tabOf Tryz.prog NT0) PHs
  have kPs := at_lt PHs
  have LQs := ld_at (T := tabOf Tryz.prog NT0) QHs
  have kQs := at_lt QHs
  have LCs := ld_at (T := tabOf Tryz.prog NT0) CHs
  have kCs := at_lt CHs
  have LDs := ld_at (T := tabOf Tryz.prog NT0) DHs
  have kDs := at_lt DHs
  unfold setC at LQs LDs
  repeat (first | ((with_reducible refine WDM_cons ?_; simp only [dw1, List.append]; try simp only [dw2, zrA, zrM, zrR, zrO, zrE]); simp only [core, zrA, zrS, zrM, zrL, zrE, reduceCtorEq, zrD, ziE, ziL, ziN, cored, aundef, l1, l2, o1, o2, pa1, pa2, pb1, pb2, LPs, kPs, LQs, kQs, LCs, kCs, LDs, kDs, hie]) | simp only [core, zrA, zrS, zrM, zrL, zrE, reduceCtorEq, zrD, ziE, ziL, ziN, cored, aundef, l1, l2, o1, o2, pa1, pa2, pb1, pb2, LPs, kPs, LQs, kQs, LCs, kCs, LDs, kDs, hie])
  refine (same_x (F := F) (G := fun _ => True) lHs oHs plHs poHs nl no).mono ?_
  rintro _ g8 ⟨Eg8, rfl⟩
  repeat (first | ((with_reducible refine WDM_cons ?_; simp only [dw1, List.append]; try simp only [dw2, zrA, zrM, zrR, zrO, zrE]); simp only [core, zrA, zrS, zrM, zrL, zrE, reduceCtorEq, zrD, ziE, ziL, ziN, cored, aundef, l1, l2, o1, o2, pa1, pa2, pb1, pb2, LPs, kPs, LQs, kQs, LCs, kCs, LDs, kDs]) | simp only [core, zrA, zrS, zrM, zrL, zrE, reduceCtorEq, zrD, ziE, ziL, ziN, cored, aundef, l1, l2, o1, o2, pa1, pa2, pb1, pb2, LPs, kPs, LQs, kQs, LCs, kCs, LDs, kDs])
  refine lives25_c ?_
  repeat (first | ((with_reducible refine WDM_cons ?_; simp only [dw1, List.append]; try simp only [dw2, zrA, zrM, zrR, zrO, zrE]); simp only [core, zrA, zrS, zrM, zrL, zrE, reduceCtorEq, zrD, ziE, ziL, ziN, cored, aundef, l1, l2, o1, o2, pa1, pa2, pb1, pb2, LPs, kPs, LQs, kQs, LCs, kCs, LDs, kDs]) | simp only [core, zrA, zrS, zrM, zrL, zrE, reduceCtorEq, zrD, ziE, ziL, ziN, cored, aundef, l1, l2, o1, o2, pa1, pa2, pb1, pb2, LPs, kPs, LQs, kQs, LCs, kCs, LDs, kDs])
  try rfl
end Go.Proofs.YtdcmfchodooolaaGreatDoor.Ex
end

section

set_option linter.unusedSimpArgs false
set_option linter.unusedVariables false
namespace Go.Proofs.YtdcmfchodooolaaGreatDoor.Ex
open Go
/-- A row of cells. -/
def rowO (w : World) (r : Nat) : Option (List Value × TypeId) := match w.heap[r]? with
  | some (.cells cur e _) => some (cur.toList, e)
  | _ => none
theorem rowO_inv {w : World} {r : Nat} {l : List Value} {e : TypeId} (h : rowO w r = some (l, e)) : ∃ cur fz, w.heap[r]? = some (.cells cur e fz) ∧ l = cur.toList := by
  unfold rowO at h
  split at h
  · rename_i cur e' fz hh
    simp only [Option.some.injEq, Prod.mk.injEq] at h
    obtain ⟨rfl, rfl⟩ := h
    exact ⟨cur, fz, hh, rfl⟩
  · cases h
def winsAt (w : World) (r : Nat) : List (Nat × Nat) := match rowO w r with
  | some (l, _) => (List.range (l.length + 1)).map fun off => (r, off)
  | none => []
/-- All windows: a row from a place on (ahead of all: the row of the library's table). -/
def wins (w : World) : List (Nat × Nat) := winsAt w 3 ++ (List.range w.heap.size).flatMap (winsAt w)
theorem mem_winsAt {w : World} {r off r' : Nat} (h : (r, off) ∈ winsAt w r') : ∃ l e, rowO w r = some (l, e) ∧ off ≤ l.length := by
  unfold winsAt at h
  split at h
  · rename_i l e hl
    obtain ⟨off', h1, h2⟩ := List.mem_map.1 h
    simp only [Prod.mk.injEq] at h2
    obtain ⟨rfl, rfl⟩ := h2
    rw [List.mem_range] at h1
    exact ⟨l, e, hl, by omega⟩
  · cases h
theorem mem_wins {w : World} {r off : Nat} : (r, off) ∈ wins w ↔ ∃ l e, rowO w r = some (l, e) ∧ off ≤ l.length := by
  unfold wins
  rw [List.mem_append, List.mem_flatMap]
  constructor
  · rintro (h | ⟨r', _, h⟩) <;> exact mem_winsAt h
  · rintro ⟨l, e, hl, ho⟩
    refine .inr ⟨r, ?_, ?_⟩
    · obtain ⟨cur, fz, hh, _⟩ := rowO_inv hl
      rw [List.mem_range]
      exact (Array.getElem?_eq_some_iff.1 hh).1
    · unfold winsAt
      rw [hl]
      exact List.mem_map.2 ⟨off, by rw [List.mem_range]; omega, rfl⟩
/-- A window's number. -/
def widx (w : World) (p : Nat × Nat) : Nat := (wins w).idxOf p + 1
def mu0 (w : World) : Mu := fun b => match b with
  | 0 => none
  | k + 1 => (wins w)[k]?
theorem mu0_widx {w : World} {p : Nat × Nat} (h : p ∈ wins w) : mu0 w (widx w p) = some p := by
  show (wins w)[(wins w).idxOf p]? = some p
  have hlt := List.idxOf_lt_length_of_mem h
  rw [List.getElem?_eq_getElem hlt, List.getElem_idxOf hlt]
instance (w : World) (p : Nat × Nat) : Decidable (p ∈ wins w) := inferInstance
def absV (w : World) : Value → AV
  | .pointer (some ⟨r, o, none⟩) => if (r, o) ∈ wins w then .ptr (widx w (r, o)) 0 else .any
  | .slice (some a) len cap => if len = 0 ∧ cap = 0 then .sl 0 0 0 (.kn 0) else match a with
    | ⟨r, o, none⟩ => if (r, o) ∈ wins w ∧ len ≤ cap ∧ cap ≤ maxLen then .sl (widx w (r, o)) 0 len (.kn cap) else .any
    | _ => .any
  | v => bif scal v then .lit v else .any
theorem absV_rel {ρ : Nat → Value} {w : World} {v : Value} (hv : v.oneCell' = true) : rel ρ (mu0 w) w (absV w v) v := by
  unfold absV
  split
  · rename_i r o
    split
    · rename_i hm
      unfold rel
      exact ⟨r, o, mu0_widx hm, rfl⟩
    · unfold rel; exact hv
  · rename_i a len cap
    split
    · rename_i h0
      obtain ⟨rfl, rfl⟩ := h0
      unfold rel
      exact .inr ⟨rfl, rfl, a, rfl⟩
    · split
      · rename_i r o
        split
        · rename_i hm
          unfold rel
          exact .inl ⟨r, o, o, cap, mu0_widx hm.1, rfl, .inr rfl, rfl, hm.2.1, hm.2.2⟩
        · unfold rel; exact hv
      · unfold rel; exact hv
  · cases hs : scal v with
    | false => simp only [cond_false]; unfold rel; exact hv
    | true => simp only [cond_true]; exact rel_lit hs
/-- A window's cells, as far as they are cells. -/
def absB (w : World) (p : Nat × Nat) : AB := match rowO w p.1 with
  | some (l, e) => .frz (((l.drop p.2).takeWhile (·.oneCell')).map (absV w)) e
  | none => .gone
def AH.ofList (l : List AB) : AH := l.foldl AH.push .nil
theorem L_foldl : ∀ (l : List AB) (h : AH), (l.foldl AH.push h).L = h.L ++ l
  | [], h => by simp
  | x :: r, h => by rw [List.foldl_cons, L_foldl r, L_push, List.append_assoc]; rfl
theorem L_ofList (l : List AB) : (AH.ofList l).L = l := by
  unfold AH.ofList
  rw [L_foldl]
  rfl
/-- The abstract heap of a world; block 0 is an empty row. -/
def absH (w : World) : AH := AH.ofList (.frz [] 0 :: (wins w).map (absB w))
theorem absH_L (w : World) : (absH w).L = .frz [] 0 :: (wins w).map (absB w) := L_ofList _
theorem absH_0 (w : World) : (absH w).at 0 = some (.frz [] 0) := by rw [← L_at, absH_L]; rfl
theorem absH_at {w : World} {p : Nat × Nat} (h : p ∈ wins w) : (absH w).at (widx w p) = some (absB w p) := by
  rw [← L_at, absH_L]
  have : (wins w)[(wins w).idxOf p]? = some p := mu0_widx h
  show ((wins w).map (absB w))[(wins w).idxOf p]? = _
  rw [List.getElem?_map, this]
  rfl
theorem absH_wr {w : World} {b : Nat} {ab : AB} (h : (absH w).L[b]? = some ab) : wr ab = false := by
  rw [absH_L] at h
  cases b with
  | zero => simp at h; subst h; rfl
  | succ k =>
    rw [List.getElem?_cons_succ, List.getElem?_map] at h
    obtain ⟨p, _, rfl⟩ := Option.map_eq_some_iff.1 h
    unfold absB
    split <;> rfl
theorem absH_nw (w : World) (b : Nat) (ab : AB) (h : (absH w).at b = some ab) : wr ab = false := absH_wr (by rw [L_at]; exact h)
theorem takeWhile_get {α : Type} {p : α → Bool} : ∀ {l : List α} {i : Nat} {x : α}, (l.takeWhile p)[i]? = some x → l[i]? = some x ∧ p x = true
  | [], i, x, h => by simp at h
  | a :: r, i, x, h => by
    rw [List.takeWhile_cons] at h
    cases ha : p a with
    | false => rw [ha] at h; simp at h
    | true =>
      rw [ha] at h
      cases i with
      | zero => simp at h; subst h; exact ⟨rfl, ha⟩
      | succ i => simp only [if_true, List.getElem?_cons_succ] at h ⊢; exact takeWhile_get h
theorem takeWhile_take {α : Type} {p : α → Bool} : ∀ {l : List α} {n : Nat}, (∀ x ∈ l.take n, p x = true) → (l.takeWhile p).take n = l.take n
  | [], n, _ => by simp
  | a :: r, 0, _ => by simp
  | a :: r, n + 1, h => by
    rw [List.takeWhile_cons, if_pos (h a (by simp)), List.take_succ_cons, List.take_succ_cons, takeWhile_take fun x hx => h x (by simp [hx])]
theorem absH_hr {P : Program} {ρ : Nat → Value} (w : World) (hpin : PinOf ρ (mu0 w) w := by intro r h; cases h) : HR P ρ w.heap.size (mu0 w) (absH w) w := by
  refine ⟨Nat.le_refl _, fun b x hb => ?_, fun b r base ab hb hx => ?_, fun b b' r base base' ab ab' h1 h2 h3 h4 h5 h6 => ?_, hpin⟩
  · rw [absH_L]
    cases b with
    | zero => cases hb
    | succ k =>
      have : k < (wins w).length := (List.getElem?_eq_some_iff.1 (show (wins w)[k]? = some x from hb)).1
      simp only [List.length_cons, List.length_map]
      omega
  · cases b with
    | zero => cases hb
    | succ k =>
      have hk : (wins w)[k]? = some (r, base) := hb
      rw [absH_L, List.getElem?_cons_succ, List.getElem?_map, hk] at hx
      simp only [Option.map_some, Option.some.injEq] at hx
      obtain ⟨l, e, hl, ho⟩ := mem_wins.1 (List.mem_of_getElem? hk)
      obtain ⟨cur, fz, hh, rfl⟩ := rowO_inv hl
      unfold absB at hx
      rw [hl] at hx
      simp only at hx
      subst hx
      refine ⟨fun hw => (by cases hw), (Array.getElem?_eq_some_iff.1 hh).1, _, hh, cur, fz, rfl, ?_, fun i x hi => ?_⟩
      · have h1 := (List.takeWhile_prefix (l := cur.toList.drop base) (·.oneCell')).length_le
        rw [List.length_drop] at h1
        have e0 : cur.toList.length = cur.size := Array.length_toList
        rw [e0] at h1 ho
        rw [List.length_map]
        exact Nat.le_trans (Nat.add_le_add_left h1 base) (by omega)
      · rw [List.getElem?_map] at hi
        obtain ⟨v, hv, rfl⟩ := Option.map_eq_some_iff.1 hi
        obtain ⟨h1, h2⟩ := takeWhile_get hv
        rw [List.getElem?_drop, Array.getElem?_toList] at h1
        exact ⟨v, h1, absV_rel h2⟩
  · have := absH_wr h3
    rw [this] at h5
    cases h5
end Go.Proofs.YtdcmfchodooolaaGreatDoor.Ex
end

section

set_option linter.unusedSimpArgs false
set_option linter.unusedVariables false
namespace Go.Proofs.YtdcmfchodooolaaGreatDoor
open Go.RowKit Go.ChangeShapes Go.WideShapes Go.ChangeAt
open Go.ChangeMaps (open_string shut_string)
theorem own : ownKnob Tryz.prog.godebug = none := by kernel_rfl
theorem laidOut : laidOutB Tryz.prog = true := by kernel_rfl
section
variable {H : Type} {enc : TypeId × Value → H} {P : Program} {W W' : World}
theorem below_trodAll (hl : laidOutB P = true) (hb : Below W.heap.size W W') : ∀ {ts : List TypeId} {vs : List Value} {ds : List (DataW H)} {ps : List MemPlace},
    ts.all (fun t => P.readableRec t && decide (t < P.types.size)) = true → DataW.TrodAll enc P W 0 (fun _ => true) true ts vs ds ps → DataW.TrodAll enc P W' 0 (fun b => decide (b < W.heap.size)) true ts vs ds ps
  | [], _, _, _, _, h => by obtain ⟨rfl, rfl, rfl⟩ := trodAll_nil h; exact trodAll_mk0
  | t :: ts, vs, ds, ps, hr, h => by
    obtain ⟨v, vs', d, ds', p, q, rfl, rfl, rfl, h1, h2⟩ := trodAll_cons h
    simp only [List.all_cons, Bool.and_eq_true, decide_eq_true_eq] at hr
    refine trodAll_cons_mk (Below.trod hl hr.1.1 hr.1.2 h1 hb ?_) (below_trodAll hl hb (by simpa using hr.2) h2)
    obtain ⟨m, hm⟩ := h1
    exact DataW.trod_lt m _ _ _ hm
theorem weights_le {ts : List TypeId} {ds : List (DataW H)} (hsz : (DataW.weightsEach P ts ds).all (· ≤ reachBytes) = true) {j : Nat} {t : TypeId} {d : DataW H} (hj : ts[j]? = some t) (hd : ds[j]? = some d) : ∀ n ∈ d.weights P t, n ≤ reachBytes := fun n hn => by
  have := List.all_eq_true.1 hsz n (DataW.weights_mem_each hj hd n hn)
  simpa using this
theorem weightsAll_mem {e : TypeId} : ∀ {l : List (DataW H)} {i : Nat} {d : DataW H}, l[i]? = some d → ∀ n ∈ d.weights P e, n ∈ DataW.weightsAll P e l
  | d0 :: l, 0, d, h, n, hn => by simp at h; subst h; simp [DataW.weightsAll, hn]
  | d0 :: l, i + 1, d, h, n, hn => by
    simp only [List.getElem?_cons_succ] at h
    simp only [DataW.weightsAll, List.mem_append]
    exact .inr (weightsAll_mem h n hn)
end
end Go.Proofs.YtdcmfchodooolaaGreatDoor
end

section

set_option linter.unusedSimpArgs false
set_option linter.unusedVariables false
namespace Go.Proofs.YtdcmfchodooolaaGreatDoor.Ex
open Go Go.RowKit Go.ChangeShapes Go.WideShapes Go.ChangeAt
section
variable {H : Type} (enc : TypeId × Value → H)
/-- The blocks of the abstract heap. -/
def InH (W : World) : Nat → Prop := fun b => b < (absH W).n
/-- A value of type t that is read is plain data; of what is not too great, B holds; μ is no greater than the reading's bulk. -/
def OpensM (P : Program) (W : World) (t : TypeId) {α : Type} (R : Rep α) (B : α → Prop) (μ : α → Nat) : Prop :=
  P.cellsOf t = R.z ∧ ∀ (fuel : Nat) (cs : List Value) (x : DataW H × List MemPlace), DataW.trod enc P W 0 (fun _ => true) true fuel t cs = some x → (x.1.weights P t).all (· ≤ reachBytes) = true →
    cs.length = R.z ∧ (∀ c ∈ cs, c.oneCell' = true) ∧ ∃ y, R.is (InH W) (absH W) (cs.map (absV W)) y ∧ B y ∧ μ y ≤ Rows.uptoBulk x.1
def OpensA (P : Program) (W : World) (t : TypeId) {α : Type} (R : Rep α) (B : α → Prop) : Prop := OpensM enc P W t R B (fun _ => 0)
variable {enc} {P : Program} {W : World}
theorem OpensM.to {t : TypeId} {α : Type} {R : Rep α} {B B' : α → Prop} {μ μ' : α → Nat} (h : OpensM enc P W t R B μ) (hB : ∀ y, B y → B' y) (hm : ∀ y, μ' y ≤ μ y) : OpensM enc P W t R B' μ' := by
  refine ⟨h.1, fun fuel cs x hf hw => ?_⟩
  obtain ⟨a, b, y, c, d, e⟩ := h.2 fuel cs x hf hw
  exact ⟨a, b, y, c, hB y d, Nat.le_trans (hm y) e⟩
theorem OpensM.toA {t : TypeId} {α : Type} {R : Rep α} {B : α → Prop} {μ : α → Nat} (h : OpensM enc P W t R B μ) : OpensA enc P W t R B := h.to (fun _ h => h) fun _ => Nat.zero_le _
theorem bulk_pos : ∀ d : DataW H, 1 ≤ Rows.uptoBulk d := by
  intro d
  unfold Rows.uptoBulk
  split <;> omega
theorem opensM_int {t : TypeId} (ht : P.underlying t = some (.int .i64)) (hc : P.cellsOf t = 1) : OpensM enc P W t RInt (fun _ => True) (fun _ => 1) := by
  refine ⟨hc, fun fuel cs x h _ => ?_⟩
  obtain ⟨n, rfl, rfl, hw⟩ := DataW.trod_int ht h
  refine ⟨rfl, by simp; rfl, n, ⟨rfl, ?_⟩, trivial, bulk_pos _⟩
  simp only [Lit.wf, IntKind.min, IntKind.max, IntKind.signed, IntKind.bits] at hw
  simp at hw
  exact ⟨hw.1, by omega⟩
theorem opensA_int {t : TypeId} (ht : P.underlying t = some (.int .i64)) (hc : P.cellsOf t = 1) : OpensA enc P W t RInt (fun _ => True) := (opensM_int ht hc).toA
theorem flat_getV {α : Type} {z : Nat} : ∀ {L : List (List α)}, (∀ x ∈ L, x.length = z) → ∀ (i : Nat) {c : List α}, L[i]? = some c → (L.flatten.drop (i * z)).take z = c
  | [], _, i, c, hc => by simp at hc
  | a :: r, h, i, c, hc => by
    have ha := h a (by simp)
    cases i with
    | zero =>
      obtain rfl : a = c := by simpa using hc
      rw [Nat.zero_mul, List.drop_zero, List.flatten_cons, ← ha, List.take_left']
      rfl
    | succ i =>
      rw [List.flatten_cons, Nat.succ_mul, Nat.add_comm, List.drop_append, List.drop_of_length_le (by omega), List.nil_append, ha, Nat.add_sub_cancel_left]
      exact flat_getV (fun x hx => h x (by simp [hx])) i (by simpa using hc)
theorem flat_lenV {α : Type} {z : Nat} {L : List (List α)} (h : ∀ x ∈ L, x.length = z) : L.flatten.length = L.length * z := by
  induction L with
  | nil => simp
  | cons a r ih =>
    rw [List.flatten_cons, List.length_append, ih (fun x hx => h x (by simp [hx])), h a (by simp), List.length_cons, Nat.succ_mul]
    omega
theorem weightsAll_mem {e : TypeId} : ∀ {l : List (DataW H)} {d : DataW H}, d ∈ l → ∀ n ∈ d.weights P e, n ∈ DataW.weightsAll P e l
  | a :: r, d, hd, n, hn => by
    simp only [DataW.weightsAll, List.mem_append]
    rcases List.mem_cons.1 hd with rfl | h
    · exact .inl hn
    · exact .inr (weightsAll_mem h n hn)
theorem bulkAll_le {f g : List (DataW H × List MemPlace)} : Rows.uptoBulkAll ((f ++ g).map (·.1)) = Rows.uptoBulkAll (f.map (·.1)) + Rows.uptoBulkAll (g.map (·.1)) := by
  induction f with
  | nil => simp [Rows.uptoBulkAll]
  | cons a r ih => simp only [List.cons_append, List.map_cons, Rows.uptoBulkAll, ih]; omega
theorem opensM_list {t e : TypeId} {α : Type} {R : Rep α} {B : α → Prop} {μ : α → Nat} {by' : Nat} (ht : P.underlying t = some (.slice e)) (hc : P.cellsOf t = 1) (hb : P.bytesOf e = by') (h0 : 0 < R.z) (ho : OpensM enc P W e R B μ) :
    OpensM enc P W t (RSl R) (fun ys => ys.length * by' ≤ 140737488351232 ∧ ∀ y ∈ ys, B y) (fun ys => (ys.map μ).sum) := by
  refine ⟨hc, fun fuel cs x hf hw => ?_⟩
  rcases DataW.trod_slice ht hf with ⟨rfl, rfl⟩ | ⟨a, len, cap, elems, rest, m, rfl, rfl, rfl, hba, hl, hm, hlen, hel, hsp, hns⟩
  · exact ⟨rfl, by simp; rfl, [], RSl_is.2 ⟨_, rfl, IsSl.nil⟩, ⟨by simp, by simp⟩, by simp⟩
  · rw [ho.1] at hel hsp
    simp only [DataW.weights, ht, List.all_cons, List.all_append, Bool.and_eq_true, decide_eq_true_eq, hb] at hw
    obtain ⟨hw1, hw2, hw3⟩ := hw
    have hrl := (hsp rfl).1
    have hbig : len * by' ≤ 140737488351232 := by
      have h1 : len * by' ≤ (elems.map (·.1)).length * by' + (rest.map (·.1)).length * by' := by rw [List.length_map, hlen]; omega
      rw [← Nat.add_mul] at h1
      exact Nat.le_trans h1 hw1
    have hone : ∀ c ∈ [Value.slice (some a) len cap], c.oneCell' = true := by simp; rfl
    refine ⟨rfl, hone, ?_⟩
    by_cases hz : len = 0 ∧ cap = 0
    · obtain ⟨rfl, rfl⟩ := hz
      refine ⟨[], RSl_is.2 ⟨.sl 0 0 0 (.kn 0), by simp [absV], .mk (L := []) ⟨by simp, .inr ⟨0, 0, _, [], rfl, by unfold getR; rw [absH_0], by simp [cut]⟩⟩ (fun b off n cap e => ?_) (fun b off n cap e => by cases e; exact Nat.le_refl 0) .nil⟩, ⟨by simp, by simp⟩, by simp⟩
      cases e
      exact at_lt (absH_0 W)
    · have hcap : 0 < cap := by omega
      have hsz0 : elems.length + rest.length = cap := by omega
      -- what is read
      have hrd : ∀ i, i < cap → ∃ l x, W.cells? 0 (a.add (i * R.z)) R.z = some l ∧ DataW.trod enc P W 0 (fun _ => true) true m e l = some x ∧ (i < len → elems[i]? = some x) := fun i hi => by
        by_cases hil : i < len
        · have h2 := hel i hil
          rw [List.getElem?_eq_getElem (by omega)] at h2
          obtain ⟨l, hl1, hl2⟩ := Option.bind_eq_some_iff.1 h2
          exact ⟨l, _, hl1, hl2, fun _ => List.getElem?_eq_getElem (by omega)⟩
        · have h2 := (hsp rfl).2 (i - len) (by omega)
          rw [List.getElem?_eq_getElem (by omega), show len + (i - len) = i by omega] at h2
          obtain ⟨l, hl1, hl2⟩ := Option.bind_eq_some_iff.1 h2
          exact ⟨l, _, hl1, hl2, fun h => absurd h hil⟩
      obtain ⟨r, o, spot⟩ := a
      obtain ⟨l0, x0, q1, q2, -⟩ := hrd 0 hcap
      have hspot : spot = none := by
        have h3 := World.cells?_some q1
        have h4 := h3.2.2 0 h0
        rw [List.getElem?_eq_getElem (by have := h3.2.1; omega)] at h4
        simpa [Addr.add] using World.cell?_spot h4
      subst hspot
      have hcell : ∀ (k : Nat) (v : Value), W.cell? (⟨r, o + k, none⟩ : Addr) = some v → ∃ cur e fz, W.heap[r]? = some (.cells cur e fz) ∧ cur[o + k]? = some v := fun k v hk => by
        unfold World.cell? at hk
        cases hh : W.heap[r]? with
        | none => simp [hh] at hk
        | some ob => cases ob <;> simp [hh] at hk <;> exact ⟨_, _, _, rfl, hk⟩
      -- the row
      obtain ⟨cur, te, fz, hrow⟩ : ∃ cur te fz, W.heap[r]? = some (.cells cur te fz) := by
        have h3 := World.cells?_some q1
        have h4 := h3.2.2 0 h0
        rw [List.getElem?_eq_getElem (by have := h3.2.1; omega)] at h4
        obtain ⟨cur, te, fz, h5, _⟩ := hcell 0 _ (by simpa [Addr.add] using h4)
        exact ⟨cur, te, fz, h5⟩
      have hcur : ∀ i l, W.cells? 0 ((⟨r, o, none⟩ : Addr).add (i * R.z)) R.z = some l → l.length = R.z ∧ ∀ f, f < R.z → cur[o + i * R.z + f]? = l[f]? := fun i l hil => by
        have h3 := World.cells?_some hil
        refine ⟨h3.2.1, fun f hf => ?_⟩
        have h4 := h3.2.2 f hf
        obtain ⟨u, hu⟩ : ∃ u, l[f]? = some u := ⟨_, List.getElem?_eq_getElem (by have := h3.2.1; omega)⟩
        rw [hu] at h4 ⊢
        rw [addr_add, addr_add] at h4
        obtain ⟨cur', te', fz', h5, h6⟩ := hcell (i * R.z + f) _ (by rw [← Nat.add_assoc]; exact h4)
        rw [hrow] at h5
        obtain ⟨rfl, _, _⟩ := Obj.cells.inj (Option.some.inj h5)
        rw [← h6, Nat.add_assoc]
      -- the elements, and the data
      have key : ∀ n, n ≤ len → ∃ (L : List (List Value)) (ys : List α), L.length = n ∧ ys.length = n ∧ (∀ c ∈ L, c.length = R.z ∧ ∀ u ∈ c, u.oneCell' = true) ∧ (∀ (i : Nat) c y, L[i]? = some c → ys[i]? = some y → R.is (InH W) (absH W) (c.map (absV W)) y) ∧ (∀ (i : Nat) c, L[i]? = some c → ∀ f, f < R.z → cur[o + i * R.z + f]? = c[f]?) ∧ (∀ y ∈ ys, B y) ∧ (ys.map μ).sum ≤ Rows.uptoBulkAll ((elems.take n).map (·.1)) := by
        intro n
        induction n with
        | zero => exact fun _ => ⟨[], [], rfl, rfl, by simp, by simp, by simp, by simp, by simp⟩
        | succ n ih =>
          intro hn
          obtain ⟨L, ys, h1, h2, h3, h4, h5, h6, h7⟩ := ih (by omega)
          obtain ⟨l, x, e1, e2, e3⟩ := hrd n (by omega)
          have e3 := e3 (by omega)
          have hwx : (x.1.weights P e).all (· ≤ reachBytes) = true := by
            rw [List.all_eq_true] at hw2 ⊢
            intro k hk
            exact hw2 k (weightsAll_mem (List.mem_map.2 ⟨x, List.mem_of_getElem? e3, rfl⟩) k hk)
          obtain ⟨g1, g2, y, g3, g4, g7⟩ := ho.2 _ _ _ e2 hwx
          obtain ⟨g5, g6⟩ := hcur n l e1
          refine ⟨L ++ [l], ys ++ [y], by simp [h1], by simp [h2], fun c hc => ?_, fun i c z hc hz => ?_, fun i c hc => ?_, fun z hz => ?_, ?_⟩
          · rcases List.mem_append.1 hc with hc | hc
            · exact h3 c hc
            · simp at hc; subst hc; exact ⟨g1, g2⟩
          · by_cases hi : i < n
            · rw [List.getElem?_append_left (by omega)] at hc hz
              exact h4 i c z hc hz
            · have := (List.getElem?_eq_some_iff.1 hc).1
              simp only [List.length_append, List.length_singleton] at this
              obtain rfl : i = n := by omega
              rw [List.getElem?_append_right (by omega), h1, Nat.sub_self] at hc
              rw [List.getElem?_append_right (by omega), h2, Nat.sub_self] at hz
              simp at hc hz
              subst hc hz
              exact g3
          · by_cases hi : i < n
            · rw [List.getElem?_append_left (by omega)] at hc
              exact h5 i c hc
            · have := (List.getElem?_eq_some_iff.1 hc).1
              simp only [List.length_append, List.length_singleton] at this
              obtain rfl : i = n := by omega
              rw [List.getElem?_append_right (by omega), h1, Nat.sub_self] at hc
              simp at hc
              subst hc
              exact g6
          · rcases List.mem_append.1 hz with hz | hz
            · exact h6 z hz
            · simp at hz; subst hz; exact g4
          · rw [List.take_add_one, e3, bulkAll_le, List.map_append, List.sum_append]
            simp only [List.map_cons, List.map_nil, List.sum_cons, List.sum_nil, Option.toList_some, Rows.uptoBulkAll]
            omega
      obtain ⟨L, ys, k1, k2, k3, k4, k5, k6, k7⟩ := key len (Nat.le_refl _)
      have hfl : L.flatten.length = len * R.z := by rw [flat_lenV (fun c hc => (k3 c hc).1), k1]
      have hpre : (cur.toList.drop o).take (len * R.z) = L.flatten := by
        apply List.ext_getElem?
        intro j
        by_cases hj : j < len * R.z
        · rw [List.getElem?_take, if_pos hj, List.getElem?_drop, Array.getElem?_toList]
          have hd : j / R.z < len := Nat.div_lt_of_lt_mul (by rw [Nat.mul_comm]; exact hj)
          have hm2 := Nat.mod_lt j h0
          have hdm := Nat.div_add_mod j R.z
          rw [Nat.mul_comm] at hdm
          have hLd : L[j / R.z]? = some L[j / R.z] := List.getElem?_eq_getElem (by omega)
          have h7 := k5 (j / R.z) _ hLd (j % R.z) hm2
          rw [Nat.add_assoc, hdm] at h7
          rw [h7]
          have h8 := flat_getV (fun c hc => (k3 c hc).1) (j / R.z) hLd
          rw [← h8, List.getElem?_take, if_pos hm2, List.getElem?_drop, hdm]
        · rw [List.getElem?_eq_none (by rw [List.length_take]; omega), List.getElem?_eq_none (by omega)]
      have hto : o ≤ cur.size := by
        obtain ⟨hll, hff⟩ := hcur 0 l0 q1
        have := hff 0 h0
        rw [List.getElem?_eq_getElem (by omega)] at this
        have := (Array.getElem?_eq_some_iff.1 this).1
        omega
      have hro : rowO W r = some (cur.toList, te) := by unfold rowO; rw [hrow]
      have hwin : (r, o) ∈ wins W := mem_wins.2 ⟨_, _, hro, by rw [Array.length_toList]; exact hto⟩
      refine ⟨ys, RSl_is.2 ⟨.sl (widx W (r, o)) 0 len (.kn cap), ?_, .mk (L := L.map (·.map (absV W))) ⟨?_, .inr ⟨widx W (r, o), 0, .kn cap, ((cur.toList.drop o).takeWhile (·.oneCell')).map (absV W), by rw [List.length_map, k1], ?_, ?_⟩⟩ (fun b off n cap e => ?_) (fun b off n cap e => ?_) ⟨by rw [List.length_map, k1, k2], fun i c y hc hy => ?_⟩⟩, ⟨by rw [k2]; exact hbig, k6⟩, by rw [List.take_of_length_le (by omega)] at k7; simp only [Rows.uptoBulk]; omega⟩
      · show [absV W (.slice (some ⟨r, o, none⟩) len cap)] = _
        simp only [absV, if_neg hz, if_pos (show (r, o) ∈ wins W ∧ len ≤ cap ∧ cap ≤ maxLen from ⟨hwin, hl, hm⟩)]
      · intro c hc
        obtain ⟨d, hd, rfl⟩ := List.mem_map.1 hc
        rw [List.length_map]
        exact (k3 d hd).1
      · unfold getR
        rw [absH_at hwin]
        simp only [absB, hro]
      · have htw : ((cur.toList.drop o).takeWhile (·.oneCell')).take (len * R.z) = L.flatten := by
          rw [takeWhile_take, hpre]
          intro u hu
          rw [hpre] at hu
          obtain ⟨c, hc, hu⟩ := List.mem_flatten.1 hu
          exact (k3 c hc).2 u hu
        have hlen2 : len * R.z ≤ ((cur.toList.drop o).takeWhile (·.oneCell')).length := by
          have := congrArg List.length htw
          rw [List.length_take, hfl] at this
          omega
        rw [List.length_map, k1]
        unfold cut
        rw [if_pos (by rw [List.length_map]; omega), List.drop_zero, ← List.map_take, htw, List.map_flatten]
      · cases e
        exact at_lt (absH_at hwin)
      · cases e
        exact hl
      · rw [List.getElem?_map] at hc
        obtain ⟨d, hd, rfl⟩ := Option.map_eq_some_iff.1 hc
        exact k4 i d y hd hy
/-! Structs. -/
/-- Values of several types, one behind another. -/
def OpensN (enc : TypeId × Value → H) (P : Program) (W : World) (ts : List TypeId) {α : Type} (R : Rep α) (B : α → Prop) (μ : α → Nat) : Prop :=
  (ts.map P.cellsOf).sum = R.z ∧ ∀ (fuel : Nat) (cs : List Value) (xs : List (DataW H × List MemPlace)), cs.length = R.z → xs.length = ts.length →
    (∀ (i : Nat) t, ts[i]? = some t → DataW.trod enc P W 0 (fun _ => true) true fuel t ((cs.drop ((ts.take i).map P.cellsOf).sum).take (P.cellsOf t)) = xs[i]?) →
    (DataW.weightsEach P ts (xs.map (·.1))).all (· ≤ reachBytes) = true →
    (∀ c ∈ cs, c.oneCell' = true) ∧ ∃ y, R.is (InH W) (absH W) (cs.map (absV W)) y ∧ B y ∧ μ y ≤ Rows.uptoBulkAll (xs.map (·.1))
theorem opensN_one {t : TypeId} {α : Type} {R : Rep α} {B : α → Prop} {μ : α → Nat} (h : OpensM enc P W t R B μ) : OpensN enc P W [t] R B μ := by
  refine ⟨by simp [h.1], fun fuel cs xs hc hx hh hw => ?_⟩
  match xs, hx with
  | [x], _ =>
    have h1 := hh 0 t rfl
    simp only [List.take_zero, List.map_nil, List.sum_nil, List.drop_zero, List.getElem?_cons_zero] at h1
    rw [h.1, ← hc, List.take_length] at h1
    simp only [List.map_cons, List.map_nil, DataW.weightsEach, List.append_nil] at hw
    simp only [List.map_cons, List.map_nil, Rows.uptoBulkAll, Nat.add_zero]
    exact (h.2 _ _ _ h1 hw).2
theorem opensN_cons {t : TypeId} {ts : List TypeId} {α β : Type} {R : Rep α} {S : Rep β} {B : α → Prop} {C : β → Prop} {μ : α → Nat} {ν : β → Nat} (h : OpensM enc P W t R B μ) (k : OpensN enc P W ts S C ν) : OpensN enc P W (t :: ts) (RPair R S) (fun x => B x.1 ∧ C x.2) (fun x => μ x.1 + ν x.2) := by
  refine ⟨by simp [h.1, k.1, RPair], fun fuel cs xs hc hx hh hw => ?_⟩
  match xs, hx with
  | x :: xs, hx =>
    have hcz : cs.length = R.z + S.z := hc
    have h1 := hh 0 t rfl
    simp only [List.take_zero, List.map_nil, List.sum_nil, List.drop_zero, List.getElem?_cons_zero, h.1] at h1
    simp only [List.map_cons, DataW.weightsEach, List.all_append, Bool.and_eq_true] at hw
    obtain ⟨g1, g2, y, g3, g4, g5⟩ := h.2 _ _ _ h1 hw.1
    obtain ⟨q1, z, q2, q3, q4⟩ := k.2 fuel (cs.drop R.z) xs (by rw [List.length_drop]; omega) (by simpa using hx) (fun i t' ht' => by
      have h2 := hh (i + 1) t' (by simpa using ht')
      rw [List.take_succ_cons, List.map_cons, List.sum_cons, h.1, ← List.drop_drop, List.getElem?_cons_succ] at h2
      exact h2) hw.2
    refine ⟨fun c hc => ?_, (y, z), ⟨(cs.take R.z).map (absV W), (cs.drop R.z).map (absV W), ?_, g3, q2⟩, ⟨g4, q3⟩, by simp only [List.map_cons, Rows.uptoBulkAll]; omega⟩
    · rw [← List.take_append_drop R.z cs] at hc
      exact (List.mem_append.1 hc).elim (g2 c) (q1 c)
    · rw [← List.map_append, List.take_append_drop]
/-- Do the fields follow one another? -/
def fieldsOk (P : Program) : List Field → Nat → Bool
  | [], _ => true
  | f :: r, k => Nat.beq f.offset k && fieldsOk P r (k + P.cellsOf f.type)
theorem fieldsOk_at : ∀ {fs : List Field} {k : Nat}, fieldsOk P fs k = true → ∀ (i : Nat) f, fs[i]? = some f → f.offset = k + (((fs.map (·.type)).take i).map P.cellsOf).sum
  | [], k, _, i, f, hf => by simp at hf
  | g :: r, k, h, i, f, hf => by
    simp only [fieldsOk, Bool.and_eq_true] at h
    cases i with
    | zero => simp at hf; subst hf; simpa using Nat.eq_of_beq_eq_true h.1
    | succ i =>
      have := fieldsOk_at h.2 i f (by simpa using hf)
      rw [this]
      simp only [List.map_cons, List.take_succ_cons, List.sum_cons]
      omega
theorem opensM_struct {t : TypeId} {fs : Array Field} {ts : List TypeId} {α β : Type} {R : Rep α} {B : α → Prop} {C : β → Prop} {μ : α → Nat} {ν : β → Nat} (f : β → α) (g : α → β) (hfg : ∀ y, f (g y) = y) (ht : P.underlying t = some (.struct fs)) (hts : fs.toList.map (·.type) = ts) (hok : fieldsOk P fs.toList 0 = true) (hc : P.cellsOf t = R.z)
    (h : OpensN enc P W ts R B μ) (hBC : ∀ y, B y → C (g y)) (hmn : ∀ y, ν (g y) ≤ μ y + 1) : OpensM enc P W t (RMap f R) C ν := by
  subst hts
  refine ⟨hc, fun fuel cs x hf hw => ?_⟩
  obtain ⟨xs, n, rfl, rfl, hcs, hxs, hel⟩ := DataW.trod_struct ht hf
  simp only [DataW.weights, ht] at hw
  rw [hc] at hcs
  obtain ⟨q1, y, q2, q3, q4⟩ := h.2 n cs xs hcs (by simpa using hxs) (fun i t' ht' => by
    rw [List.getElem?_map] at ht'
    obtain ⟨fd, hfd, rfl⟩ := Option.map_eq_some_iff.1 ht'
    have := hel i fd (by simpa using hfd)
    rw [fieldsOk_at hok i fd hfd, Nat.zero_add] at this
    exact this) hw
  exact ⟨hcs, q1, g y, by show R.is _ _ _ (f (g y)); rw [hfg]; exact q2, hBC y q3, Nat.le_trans (hmn y) (by simp only [Rows.uptoBulk]; omega)⟩
end
section
variable {H : Type} {enc : TypeId × Value → H} {W : World}
end
end Go.Proofs.YtdcmfchodooolaaGreatDoor.Ex
end

section

set_option linter.unusedSimpArgs false
set_option linter.unusedVariables false
namespace Go.Proofs.YtdcmfchodooolaaGreatDoor.Ex
open Go Go.RowKit Go.ChangeShapes Go.WideShapes Go.ChangeAt
section
variable {H : Type} {enc : TypeId × Value → H} {W : World}
end
end Go.Proofs.YtdcmfchodooolaaGreatDoor.Ex
end

section

set_option linter.unusedSimpArgs false
set_option linter.unusedVariables false
namespace Go.Proofs.YtdcmfchodooolaaGreatDoor.Ex
open Go Go.RowKit Go.ChangeShapes Go.WideShapes Go.ChangeAt
theorem rels_absV {ρ : Nat → Value} {w : World} : ∀ {cs : List Value}, (∀ c ∈ cs, c.oneCell' = true) → rels ρ (mu0 w) w (cs.map (absV w)) cs
  | [], _ => rels_nil
  | c :: r, h => rels_cons (absV_rel (h c (by simp))) (rels_absV fun x hx => h x (by simp [hx]))
theorem pinT {W : World} (htab : Lib.TabIs Tryz.prog W "internal/strconv.uint64pow10" .u64 Lib.pow10Tab) : PinOf ρT (mu0 W) W ∧ ∃ e, (absH W).at 1 = some (.frz tabL e) := by
  unfold Lib.TabIs World.var? at htab
  rw [show Tryz.prog.globalNamed "internal/strconv.uint64pow10" = some 3 by kernel_rfl] at htab
  have htab : (match W.heap[3]? with | some (Obj.cells cs _ _) => some cs | _ => none) = some (Lib.pow10Tab.map fun z => Value.int .u64 z).toArray := htab
  split at htab
  case h_2 => cases htab
  rename_i cs e fz h0
  obtain rfl := Option.some.inj htab
  have hrow : rowO W 3 = some ((Lib.pow10Tab.map fun z => Value.int .u64 z), e) := by unfold rowO; rw [h0]
  have hwin : (wins W)[0]? = some (3, 0) := by
    unfold wins
    have : winsAt W 3 = (3, 0) :: ((List.range 20).map fun off => (3, off + 1)) := by
      unfold winsAt
      rw [hrow]
      rfl
    rw [this]
    rfl
  have hmu : mu0 W 1 = some (3, 0) := hwin
  refine ⟨fun r hr => ?_, e, ?_⟩
  · have hr : (Value.int .i64 3) = .int .i64 r := hr
    cases hr
    exact ⟨hmu, _, e, fz, h0, rfl⟩
  · rw [← L_at, absH_L, List.getElem?_cons_succ, List.getElem?_map, hwin]
    simp only [Option.map_some]
    congr 1
    unfold absB
    rw [show ((3, 0) : Nat × Nat).1 = 3 from rfl, hrow]
    rfl
theorem law_joinT {W : World} (htab : Lib.TabIs Tryz.prog W "internal/strconv.uint64pow10" .u64 Lib.pow10Tab) {f : FuncId} {vs : List Value} {avs : List AV} (ha : rels ρT (mu0 W) W avs vs) (hw : ∀ e, (absH W).at 1 = some (.frz tabL e) → WC Tryz.prog (tabOf Tryz.prog NT0) S0 f avs (absH W) fun v h' => v = .lit (.bool true)) :
    Calls Tryz.prog f vs.toArray W fun e w' => e = .returned (.bool true) ∧ Below W.heap.size W w' := by
  obtain ⟨hp, e, hT⟩ := pinT htab
  obtain ⟨n, o, h1, hex, v, cm, rfl, rfl⟩ := hw e hT
  refine (ex_callsH tab_sound noNG follows_mixed (sums_ok _) (absH_hr W hp) (absH_nw W) hex ha).mono fun e w' hy => ?_
  obtain ⟨v', μ', rfl, hb, hv⟩ := hy
  exact ⟨by rw [rel_bool_inv hv], hb⟩
end Go.Proofs.YtdcmfchodooolaaGreatDoor.Ex
end

section

set_option linter.unusedSimpArgs false
set_option linter.unusedVariables false
namespace Go.Proofs.YtdcmfchodooolaaGreatDoor.Ex
open Go Go.RowKit Go.ChangeShapes Go.WideShapes Go.ChangeAt
section
variable {H : Type} {enc : TypeId × Value → H} {W : World}
theorem OpensM.conv {P : Program} {t : TypeId} {α : Type} {R R' : Rep α} {B : α → Prop} {μ : α → Nat} (h : OpensM enc P W t R B μ) (hz : R.z = R'.z) (hi : ∀ F h c y, R.is F h c y → R'.is F h c y) : OpensM enc P W t R' B μ := by
  refine ⟨h.1.trans hz, fun fuel cs x hf hw => ?_⟩
  obtain ⟨a, b, y, c, d, e⟩ := h.2 fuel cs x hf hw
  exact ⟨a.trans hz, b, y, hi _ _ _ _ c, d, e⟩
def txM (s : List UInt8) : Nat := s.length + 1
theorem opensM_tx : OpensM enc Tryz.prog W 9 RTx (fun _ => True) txM := by
  refine ⟨by kernel_rfl, fun fuel cs x h hw => ?_⟩
  obtain ⟨s, rfl, rfl, hs⟩ := DataW.trod_string Tryz.underlying9 h
  exact ⟨rfl, by simp; rfl, s.data.toList, rfl, trivial, Nat.le_refl _⟩
def RSha : Rep (Fin 32 → Int) where
  z := 32
  is _ _ c x := c = (List.ofFn x).map fun b => .lit (.int .u8 b)
  len := fun h => by subst h; simp
  one := fun h v hv => by
    subst h
    obtain ⟨b, _, rfl⟩ := List.mem_map.1 hv
    rfl
  lift := fun h _ => h
set_option maxRecDepth 10000 in
theorem opensA_sha : OpensA enc Tryz.prog W 26 RSha (fun _ => True) := by
  have hci : Tryz.prog.cellsOf 5 = 1 := by kernel_rfl
  refine ⟨by kernel_rfl, fun fuel cs x hf _ => ?_⟩
  obtain ⟨xs, m, rfl, rfl, hcs, hxs, hel⟩ := DataW.trod_array Tryz.underlying26 hf
  have hc2 : Tryz.prog.cellsOf 26 = 32 := by kernel_rfl
  rw [hc2] at hcs
  have hget : ∀ i (hi : i < 32), ∃ a : Int, cs[i]? = some (.int .u8 a) := fun i hi => by
    have h0 := hel i hi
    rw [hci] at h0
    have e0 : xs[i]? = some xs[i] := List.getElem?_eq_getElem (by omega)
    rw [e0] at h0
    obtain ⟨a, q0, -, w0⟩ := DataW.trod_int Tryz.underlying5 h0
    refine ⟨a, ?_⟩
    have h2 : ((cs.drop (i * 1)).take 1)[0]? = some (.int .u8 a) := by rw [q0]; rfl
    rw [List.getElem?_take_of_lt (by decide), List.getElem?_drop] at h2
    simpa using h2
  obtain ⟨f, hf⟩ : ∃ f : Fin 32 → Int, ∀ i : Fin 32, cs[i.val]? = some (.int .u8 (f i)) := ⟨fun i => (hget i.val i.isLt).choose, fun i => (hget i.val i.isLt).choose_spec⟩
  have hcl : cs = (List.ofFn f).map fun a => Value.int .u8 a := by
    refine List.ext_getElem? fun i => ?_
    by_cases hi : i < 32
    · rw [hf ⟨i, hi⟩, List.getElem?_map, List.getElem?_eq_getElem (by simpa using hi), List.getElem_ofFn]
      rfl
    · rw [List.getElem?_eq_none_iff.2 (by omega), List.getElem?_eq_none_iff.2 (by simp; omega)]
  refine ⟨hcs, ?_, f, ?_, trivial, Nat.zero_le _⟩
  · intro c hc
    rw [hcl] at hc
    obtain ⟨a, _, rfl⟩ := List.mem_map.1 hc
    rfl
  · show cs.map (absV W) = _
    rw [hcl, List.map_map]
    rfl
def setM (s : SetD) : Nat := s.name.length + s.id.length + 1
theorem opensM_set : OpensM enc Tryz.prog W 28 RSet (fun _ => True) setM :=
  (opensM_struct (ts := [9, 9, 3, 26]) (C := fun _ => True) (ν := setM) (fun x : SetD => (x.name, x.id, x.size, x.sha)) (fun y => ⟨y.1, y.2.1, y.2.2.1, y.2.2.2⟩) (fun y => rfl) Tryz.underlying28 (by rfl) (by kernel_rfl) (by kernel_rfl)
    (opensN_cons opensM_tx (opensN_cons opensM_tx (opensN_cons (opensA_int Tryz.underlying3 (by kernel_rfl)) (opensN_one opensA_sha)))) (fun _ _ => trivial) (fun y => by unfold setM txM; dsimp only; omega)).conv rfl fun F h c y ⟨c1, c2, e1, h1, c3, c4, e2, h2, c5, c6, e3, h3, h4⟩ => by
      show c = setC y
      have h1 : c1 = [.lit (.string ⟨y.name.toArray⟩)] := h1
      have h2 : c3 = [.lit (.string ⟨y.id.toArray⟩)] := h2
      have h3 : c5 = [.lit (.int .i64 y.size)] := h3.1
      have h4 : c6 = (List.ofFn y.sha).map fun b => .lit (.int .u8 b) := h4
      rw [e1, e2, e3, h1, h2, h3, h4, setC_of]
      rfl
def RRoot : Rep RootD := RMap (fun x => (x.live, x.ops)) (RPair (RSl RSet) (RSl RTx))
def rootM (r : RootD) : Nat := (r.live.map setM).sum + (r.ops.map txM).sum
theorem opensM_root : OpensM enc Tryz.prog W 25 RRoot (fun _ => True) rootM :=
  opensM_struct (ts := [22, 23]) (fun x : RootD => (x.live, x.ops)) (fun y => ⟨y.1, y.2⟩) (fun y => rfl) Tryz.underlying25 (by rfl) (by kernel_rfl) (by kernel_rfl)
    (opensN_cons (opensM_list (by' := 72) Tryz.underlying22 (by kernel_rfl) (by kernel_rfl) (by decide) opensM_set) (opensN_one (opensM_list (by' := 16) Tryz.underlying23 (by kernel_rfl) (by kernel_rfl) (by decide) opensM_tx)))
    (fun _ _ => trivial) (fun y => by unfold rootM; dsimp only; omega)
def RAsk : Rep (List UInt8 × List UInt8 × SetD) := RMap id (RPair RTx (RPair RTx RSet))
theorem opensM_ask : OpensM enc Tryz.prog W 30 RAsk (fun _ => True) (fun x => txM x.1 + (txM x.2.1 + setM x.2.2)) :=
  opensM_struct (ts := [9, 9, 28]) id (fun y => y) (fun y => rfl) Tryz.underlying30 (by rfl) (by kernel_rfl) (by kernel_rfl)
    (opensN_cons opensM_tx (opensN_cons opensM_tx (opensN_one opensM_set))) (fun _ _ => trivial) (fun y => by omega)
theorem open_aggM {ρ : Nat → Value} {P : Program} {base : Nat} {t : TypeId} {v0 : Value} {d0 : DataW H} {p0 : List MemPlace} {d : TypeDesc} {α : Type} {R : Rep α} {B : α → Prop} {μ : α → Nat} (hO : OpensM enc P W t R B μ) (hu : P.underlying t = some d) (hd : isAggD d = true)
    (k0 : Value.okWide P W .any base t v0) (h0 : DataW.Trod enc P W 0 (fun _ => true) true t v0 d0 p0) (hw : ∀ n ∈ d0.weights P t, n ≤ reachBytes) :
    ∃ (cs : List AV) (y : α), rel ρ (mu0 W) W (.agg cs) v0 ∧ R.is (InH W) (absH W) cs y ∧ B y ∧ μ y ≤ Rows.uptoBulk d0 := by
  obtain ⟨cs, rfl, h1, h2⟩ := okWide_agg hu hd k0
  obtain ⟨fuel, hf⟩ := h0
  obtain ⟨h3, h4, y, h5, h6⟩ := hO.2 fuel cs.toList _ hf (List.all_eq_true.2 fun n hn => (by simpa using hw n hn))
  refine ⟨_, y, ?_, h5, h6⟩
  unfold rel
  exact ⟨cs.toList, by simp, rels_absV h4⟩
theorem mem_sum {α : Type} {μ : α → Nat} {x : α} : ∀ {l : List α}, x ∈ l → μ x ≤ (l.map μ).sum
  | a :: r, h => by
    rw [List.map_cons, List.sum_cons]
    rcases List.mem_cons.1 h with rfl | h
    · omega
    · have := mem_sum (μ := μ) h
      omega
theorem len_sum {α : Type} {μ : α → Nat} (h : ∀ x, 1 ≤ μ x) : ∀ {l : List α}, l.length ≤ (l.map μ).sum
  | [] => Nat.le_refl _
  | a :: r => by
    have := len_sum h (l := r)
    have := h a
    rw [List.map_cons, List.sum_cons, List.length_cons]
    omega
end
end Go.Proofs.YtdcmfchodooolaaGreatDoor.Ex
namespace Go.Proofs.YtdcmfchodooolaaGreatDoor
open Go.RowKit Go.ChangeShapes Go.WideShapes Go.ChangeAt
set_option maxRecDepth 100000 in
theorem manifestRoots_walk {H : Type} {enc : TypeId × Value → H} {W : World} (htab : Lib.TabIs Tryz.prog W "internal/strconv.uint64pow10" .u64 Lib.pow10Tab) {base : Nat} {v0 v1 : Value} {d0 d1 : DataW H} {p0 p1 : List MemPlace}
    (k0 : Value.okWide Tryz.prog W .any base 25 v0) (h0 : DataW.Trod enc Tryz.prog W 0 (fun _ => true) true 25 v0 d0 p0)
    (k1 : Value.okWide Tryz.prog W .any base 30 v1) (h1 : DataW.Trod enc Tryz.prog W 0 (fun _ => true) true 30 v1 d1 p1)
    (hb : Rows.uptoBulkAll [d0, d1] ≤ 1048576)
    {ts : List TypeId} {ds : List (DataW H)} (hsz : (DataW.weightsEach Tryz.prog ([25, 30] ++ ts) ([d0, d1] ++ ds)).all (· ≤ reachBytes) = true) :
    Calls Tryz.prog 3 #[v0, v1] W fun e w' => e = .returned (.bool true) ∧ Below W.heap.size W w' := by
  obtain ⟨c0, r, r0, i0, b0, m0⟩ := Ex.open_aggM (ρ := Ex.ρT) Ex.opensM_root Tryz.underlying25 rfl k0 h0 (weights_le hsz (j := 0) rfl rfl)
  obtain ⟨c1, q, r1, i1, -, m1⟩ := Ex.open_aggM (ρ := Ex.ρT) Ex.opensM_ask Tryz.underlying30 rfl k1 h1 (weights_le hsz (j := 1) rfl rfl)
  simp only [Rows.uptoBulkAll] at hb
  obtain ⟨e1, e2, rfl, hl, ho⟩ := i0
  obtain ⟨vl, rfl, hl⟩ := Ex.RSl_is.1 hl
  obtain ⟨vo, rfl, ho⟩ := Ex.RSl_is.1 ho
  obtain ⟨f1, f2, rfl, hn, g1, g2, rfl, hi, hs⟩ := i1
  obtain ⟨name, id, s⟩ := q
  have hn : f1 = [.lit (.string ⟨name.toArray⟩)] := hn
  have hi : g1 = [.lit (.string ⟨id.toArray⟩)] := hi
  have hs : g2 = Ex.setC s := hs
  subst hn
  subst hi
  subst hs
  have m1 : (name.length + 1) + ((id.length + 1) + (s.name.length + s.id.length + 1)) ≤ Rows.uptoBulk d1 := m1
  have m0 : (r.live.map Ex.setM).sum + (r.ops.map Ex.txM).sum ≤ Rows.uptoBulk d0 := m0
  have hrl : Ex.RLen r := ⟨fun x hx => by
      have h1 : x.length + 1 ≤ (r.ops.map Ex.txM).sum := Ex.mem_sum (μ := Ex.txM) hx
      omega, fun x hx => by
      have h1 : x.name.length + x.id.length + 1 ≤ (r.live.map Ex.setM).sum := Ex.mem_sum (μ := Ex.setM) hx
      omega⟩
  have nl : r.live.length ≤ (r.live.map Ex.setM).sum := Ex.len_sum fun x => Nat.succ_le_succ (Nat.zero_le _)
  have no : r.ops.length ≤ (r.ops.map Ex.txM).sum := Ex.len_sum fun x => Nat.succ_le_succ (Nat.zero_le _)
  exact Ex.law_joinT htab (Ex.rels_cons r0 (Ex.rels_cons r1 Ex.rels_nil)) fun e hT => Ex.roots_m hl ho hrl (by omega) (by omega) (by omega) (by omega) (by omega) (by omega)
end Go.Proofs.YtdcmfchodooolaaGreatDoor
end
