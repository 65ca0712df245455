/- Part 12 of the proof: PlaceApartWalk. -/
import Derived.Test.YtkgbeihcepociaaM11
section

set_option linter.unusedSimpArgs false
set_option linter.unusedVariables false
set_option maxRecDepth 10000
set_option maxHeartbeats 4000000
namespace Go.Proofs.Ytkgbeihcepociaa.Ex
open Go
theorem actF_nodup {m : MapD} {pool seed : Int} : (actF m pool seed).Nodup := by
  unfold actF
  split
  · exact List.nodup_nil
  · split
    · exact List.nodup_nil
    · exact selectF_may.2
theorem placeApart_m {F : Nat → Prop} {H : AH} {m : MapD} {vo vp vb : AV} (pool seed : Int) (osd : Int) (h0 : 0 ≤ osd) (hm : MpAt F H m vo vp vb) (hF : ∀ b, F b → b < H.n) (hok : OkMp m) :
    WC Try.prog (tabOf Try.prog NT0) S0 12 [mpV m vo vp vb, pgV pool seed, .lit (.int .u64 osd)] H fun v h' => v = .lit (.bool true) := by
  refine WC_fn Try.func12 rfl rfl ?_
  have o1 := hm.o.one
  have o2 := hm.p.one
  have o3 := hm.b.one
  have i1 := hm.o.isSl
  have i2 := hm.p.isSl
  have i3 := hm.b.isSl
  have w2 := hm.o.lenD
  have hlo : m.osds.length * 40 ≤ 140737488351232 := hok.1.1
  simp only [core, Nat.reduceAdd, Nat.reduceSub, Nat.reduceMul, Nat.reduceLT, Nat.reduceEqDiff, reduceCtorEq, Nat.reduceLeDiff, Int.reduceLE, Int.reduceLT, Int.reduceToNat, Try.ntmps12, mpV, pgV, o1, o2, o3]
  obtain ⟨h1, hh1⟩ : ∃ h1, h1 = (H.push (.cells [.lit (.int .i64 m.epoch), vo, vp, vb, .lit (.int .i64 m.leaf)] 31)).push (.cells [.lit (.int .i64 pool), .lit (.int .i64 seed)] 56) := ⟨_, rfl⟩
  have E1 : Ext H.n H h1 := hh1 ▸ ((Ext.refl _ _).push _ (Nat.le_refl _)).push _ (by rw [n_push]; omega)
  have A1 : h1.at H.n = some (.cells [.lit (.int .i64 m.epoch), vo, vp, vb, .lit (.int .i64 m.leaf)] 31) := hh1 ▸ (at_push_lt _ (by rw [n_push]; omega)).trans (at_push_n _ _)
  have B1 : h1.at (H.n + 1) = some (.cells [.lit (.int .i64 pool), .lit (.int .i64 seed)] 56) := hh1 ▸ at_push_n _ _
  have la1 := at_lt A1
  have lb1 := at_lt B1
  rw [← hh1]
  clear hh1
  refine (tame_x (hm.ext E1 (Nat.le_refl _))).mono ?_
  rintro _ h2 ⟨e2, rfl⟩
  have E2 := E1.step e2
  have A2 := (e2.2 _ la1).trans A1
  have B2 := (e2.2 _ lb1).trans B1
  have la2 := at_lt A2
  have lb2 := at_lt B2
  have LA2 := ld_at (T := tabOf Try.prog NT0) A2
  have LB2 := ld_at (T := tabOf Try.prog NT0) B2
  obtain ⟨ta, hta⟩ : ∃ ta, ta = (decide (m.pools.length < 20) && decide (m.buckets.length < 40)) := ⟨_, rfl⟩
  rw [← hta]
  by_cases ht : ta = false
  · simp only [core, Nat.reduceAdd, Nat.reduceSub, Nat.reduceMul, Nat.reduceLT, Nat.reduceEqDiff, reduceCtorEq, Nat.reduceLeDiff, Int.reduceLE, Int.reduceLT, Int.reduceToNat, ht]
    refine lives09_c ?_
    simp only [core, Nat.reduceAdd, Nat.reduceSub, Nat.reduceMul, Nat.reduceLT, Nat.reduceEqDiff, reduceCtorEq, Nat.reduceLeDiff, Int.reduceLE, Int.reduceLT, Int.reduceToNat]
  have ht : ta = true := by simpa using ht
  have hpl : m.pools.length < 20 := by
    rw [ht] at hta
    have := (Bool.and_eq_true_iff.1 hta.symm).1
    exact of_decide_eq_true this
  by_cases hz : m.osds = []
  · have hz0 : m.osds.length = 0 := by rw [hz]; rfl
    have hzb : (((0 : Nat) : Int) == 0) = true := by decide
    simp only [core, Nat.reduceAdd, Nat.reduceSub, Nat.reduceMul, Nat.reduceLT, Nat.reduceEqDiff, reduceCtorEq, Nat.reduceLeDiff, Int.reduceLE, Int.reduceLT, Int.reduceToNat, ht, LA2, la2, i1, w2, hz0, hzb]
    refine lives09_c ?_
    simp only [core, Nat.reduceAdd, Nat.reduceSub, Nat.reduceMul, Nat.reduceLT, Nat.reduceEqDiff, reduceCtorEq, Nat.reduceLeDiff, Int.reduceLE, Int.reduceLT, Int.reduceToNat]
  have hpos : 0 < m.osds.length := List.length_pos_iff.2 hz
  have hz1 : ((m.osds.length : Int) == 0) = false := by rw [beq_eq_false_iff_ne]; omega
  simp only [core, Nat.reduceAdd, Nat.reduceSub, Nat.reduceMul, Nat.reduceLT, Nat.reduceEqDiff, reduceCtorEq, Nat.reduceLeDiff, Int.reduceLE, Int.reduceLT, Int.reduceToNat, ht, LA2, la2, LB2, lb2, i1, w2, hz1]
  refine (act_x pool seed (hm.ext E2 (Nat.le_refl _)) hok.okM hok.1.1 hok.2.1.1).mono ?_
  rintro va h3 ⟨e3, hva⟩
  have E3 := E2.step e3
  have A3 := (e3.2 _ la2).trans A2
  have B3 := (e3.2 _ lb2).trans B2
  have la3 := at_lt A3
  have lb3 := at_lt B3
  have LA3 := ld_at (T := tabOf Try.prog NT0) A3
  have LB3 := ld_at (T := tabOf Try.prog NT0) B3
  have v1 := hva.isSl
  have v2 := hva.lenD
  have hal := actF_len (m := m) (pool := pool) (seed := seed)
  have hwl : IntKind.u64.wrap (m.osds.length : Int) = (m.osds.length : Int) := by
    have : m.osds.length < 18446744073709551616 := by omega
    show (m.osds.length : Int) % 18446744073709551616 = _
    omega
  have hnz : ¬ ((m.osds.length : Nat) : Int) = 0 := by omega
  simp only [core, Nat.reduceAdd, Nat.reduceSub, Nat.reduceMul, Nat.reduceLT, Nat.reduceEqDiff, reduceCtorEq, Nat.reduceLeDiff, Int.reduceLE, Int.reduceLT, Int.reduceToNat, LA3, la3, i1, w2, hwl, hnz, v1, v2]
  obtain ⟨kk, hkk, hkl⟩ : ∃ kk : Nat, IntKind.i64.wrap (osd.tmod m.osds.length) = (kk : Int) ∧ kk < m.osds.length := by
    have q1 : osd.tmod (m.osds.length : Int) = osd % (m.osds.length : Int) := Int.tmod_eq_emod_of_nonneg h0
    have q2 := Int.emod_nonneg osd hnz
    have q3 := Int.emod_lt_of_pos osd (show (0 : Int) < (m.osds.length : Int) by omega)
    refine ⟨(osd % (m.osds.length : Int)).toNat, ?_, by omega⟩
    rw [q1, wrap_in (by omega) (by omega)]
    omega
  rw [hkk]
  obtain ⟨acts, hacts⟩ : ∃ acts, acts = actF m pool seed := ⟨_, rfl⟩
  have hnd := actF_nodup (m := m) (pool := pool) (seed := seed)
  rw [← hacts] at hva v2 hal hnd ⊢
  refine WB_for acts.length (fun i t h => h = h3 ∧ t.n = 121 ∧ t.get 3 = .ptr H.n 0 ∧ t.get 4 = .ptr (H.n + 1) 0 ∧ t.get 7 = va ∧ t.get 8 = .lit (.int .i64 kk) ∧ t.get 9 = .lit (.bool ((acts.take i).contains (kk : Int))) ∧ t.get 40 = va ∧ t.get 41 = .lit (.int .i64 acts.length) ∧ t.get 42 = .lit (.int .i64 i)) ?_ ?_ _ _ ?_
  · rintro i t hq hlt hc ⟨hh, hn, g3, g4, g7, g8, g9, g40, g41, g42⟩ ih
    replace hh := hh.symm
    subst hh
    have hws := wrap_succ hlt (by omega)
    have hld := hva.int (T := tabOf Try.prog NT0) (e := 3) (by kernel_rfl) (by kernel_rfl) hlt
    have hct := contains_take (x := (kk : Int)) hlt
    rcases Bool.eq_false_or_eq_true ((acts.take i).contains (kk : Int)) with hin | hin
    all_goals
      simp only [core, Nat.reduceAdd, Nat.reduceSub, Nat.reduceMul, Nat.reduceLT, Nat.reduceEqDiff, reduceCtorEq, Nat.reduceLeDiff, Int.reduceLE, Int.reduceLT, Int.reduceToNat, hn, g3, g4, g7, g8, g9, g40, g41, g42, hc, hlt, hld, v1, v2, hin]
      refine WB_for i (fun j t h' => h' = h3 ∧ t.n = 121 ∧ t.get 3 = .ptr H.n 0 ∧ t.get 4 = .ptr (H.n + 1) 0 ∧ t.get 7 = va ∧ t.get 8 = .lit (.int .i64 kk) ∧ t.get 9 = .lit (.bool ((acts.take (i + 1)).contains (kk : Int))) ∧ t.get 10 = .lit (.int .i64 i) ∧ t.get 11 = .lit (.int .i64 (acts.getD i 0)) ∧ t.get 12 = .lit (.int .i64 j) ∧ t.get 40 = va ∧ t.get 41 = .lit (.int .i64 acts.length) ∧ t.get 42 = .lit (.int .i64 i)) ?_ ?_ _ _ ?_
      · rintro j t hq hj hcj ⟨hh, hn, g3, g4, g7, g8, g9, g10, g11, g12, g40, g41, g42⟩ ih2
        replace hh := hh.symm
        subst hh
        have hjl : j < acts.length := by omega
        have hws2 := wrap_succ hj (by omega)
        have hldj := hva.int (T := tabOf Try.prog NT0) (e := 3) (by kernel_rfl) (by kernel_rfl) hjl
        have hne : (acts.getD j 0 == acts.getD i 0) = false := by
          rw [beq_eq_false_iff_ne, List.getD_eq_getElem?_getD, List.getD_eq_getElem?_getD, List.getElem?_eq_getElem hjl, List.getElem?_eq_getElem hlt]
          exact List.pairwise_iff_getElem.1 hnd j i hjl hlt hj
        simp only [core, Nat.reduceAdd, Nat.reduceSub, Nat.reduceMul, Nat.reduceLT, Nat.reduceEqDiff, reduceCtorEq, Nat.reduceLeDiff, Int.reduceLE, Int.reduceLT, Int.reduceToNat, hn, g3, g4, g7, g8, g9, g10, g11, g12, g40, g41, g42, hcj, hjl, hldj, v1, v2, hne, hws2]
        refine ih2 _ _ ⟨rfl, ?_⟩
        simp only [core, Nat.reduceAdd, Nat.reduceSub, Nat.reduceMul, Nat.reduceLT, Nat.reduceEqDiff, reduceCtorEq, Nat.reduceLeDiff, Int.reduceLE, Int.reduceLT, Int.reduceToNat, hn, g3, g4, g7, g8, g9, g10, g11, g12, g40, g41, g42]
      · rintro t hq hcj ⟨hh, hn, g3, g4, g7, g8, g9, g10, g11, g12, g40, g41, g42⟩
        replace hh := hh.symm
        subst hh
        simp only [core, Nat.reduceAdd, Nat.reduceSub, Nat.reduceMul, Nat.reduceLT, Nat.reduceEqDiff, reduceCtorEq, Nat.reduceLeDiff, Int.reduceLE, Int.reduceLT, Int.reduceToNat, hn, g3, g4, g7, g8, g9, g10, g11, g12, g40, g41, g42, hcj, hws]
        refine ih _ _ ⟨rfl, ?_⟩
        simp only [core, Nat.reduceAdd, Nat.reduceSub, Nat.reduceMul, Nat.reduceLT, Nat.reduceEqDiff, reduceCtorEq, Nat.reduceLeDiff, Int.reduceLE, Int.reduceLT, Int.reduceToNat, hn, g3, g4, g7, g8, g9, g10, g11, g12, g40, g41, g42]
      · simp only [core, Nat.reduceAdd, Nat.reduceSub, Nat.reduceMul, Nat.reduceLT, Nat.reduceEqDiff, reduceCtorEq, Nat.reduceLeDiff, Int.reduceLE, Int.reduceLT, Int.reduceToNat, hn, g3, g4, g7, g8, g9, g40, g41, g42, hct, hin, Bool.true_or, Bool.false_or]
        simp
  · rintro t hq hc ⟨hh, hn, g3, g4, g7, g8, g9, g40, g41, g42⟩
    replace hh := hh.symm
    subst hh
    rw [List.take_length] at g9
    simp only [core, Nat.reduceAdd, Nat.reduceSub, Nat.reduceMul, Nat.reduceLT, Nat.reduceEqDiff, reduceCtorEq, Nat.reduceLeDiff, Int.reduceLE, Int.reduceLT, Int.reduceToNat, hn, g3, g4, g7, g8, g9, g40, g41, g42, hc, LA3, la3]
    obtain ⟨im, him⟩ : ∃ im, im = acts.contains (kk : Int) := ⟨_, rfl⟩
    rw [← him] at g9
    refine (of_x (kk : Int) (hm.ext E3 (Nat.le_refl _)) hok.okM hok.1.1 hok.2.1.1 hpl).mono ?_
    rintro vf h4 ⟨e4, hvf⟩
    have E4 := E3.step e4
    have A4 := (e4.2 _ la3).trans A3
    have B4 := (e4.2 _ lb3).trans B3
    have la4 := at_lt A4
    have lb4 := at_lt B4
    have f1 := hvf.isSl
    have f2 := hvf.lenD
    have hva4 := hva.ext e4 (Nat.le_refl _)
    obtain ⟨ofl, hofl⟩ : ∃ ofl, ofl = ofC m (allC m) (kk : Int) := ⟨_, rfl⟩
    rw [← hofl] at hvf f2
    have hall := allC_len m
    have hofn : ofl.length ≤ 160 := by
      have := List.length_filter_le (fun g => (actF m g.pool g.seed).contains (kk : Int)) (allC m)
      rw [hofl]
      unfold ofC
      omega
    simp only [core, Nat.reduceAdd, Nat.reduceSub, Nat.reduceMul, Nat.reduceLT, Nat.reduceEqDiff, reduceCtorEq, Nat.reduceLeDiff, Int.reduceLE, Int.reduceLT, Int.reduceToNat, hn, g3, g4, g7, g8, g9, g40, g41, g42, f1, f2]
    refine WB_for ofl.length (fun i t h => Ext h4.n h4 h ∧ t.n = 121 ∧ t.get 3 = .ptr H.n 0 ∧ t.get 4 = .ptr (H.n + 1) 0 ∧ t.get 7 = va ∧ t.get 8 = .lit (.int .i64 kk) ∧ t.get 9 = .lit (.bool im) ∧ t.get 13 = .lit (.bool ((ofl.take i).any fun g => g.pool == pool && g.seed == seed)) ∧ t.get 67 = vf ∧ t.get 68 = .lit (.int .i64 ofl.length) ∧ t.get 69 = .lit (.int .i64 i)) ?_ ?_ _ _ ?_
    · rintro i t h hlt hc ⟨he, hn, g3, g4, g7, g8, g9, g13, g67, g68, g69⟩ ih
      have hws := wrap_succ hlt (by omega)
      obtain ⟨g, hg⟩ : ∃ g, ofl[i]? = some g := ⟨_, List.getElem?_eq_getElem hlt⟩
      obtain ⟨c, hc1, hld, hld0⟩ := hvf.atE (T := tabOf Try.prog NT0) he (show RPg.z = 2 from rfl) hg
      obtain ⟨rfl, I1, I2⟩ := RPg_is.1 hc1
      have hany := any_take (p := fun g => g.pool == pool && g.seed == seed) hg
      obtain ⟨hA, hhA⟩ : ∃ hA, hA = h.push (.cells [.lit (.int .i64 g.pool), .lit (.int .i64 g.seed)] 56) := ⟨_, rfl⟩
      have eA : Ext h.n h hA := hhA ▸ (Ext.refl _ _).push _ (Nat.le_refl _)
      have GA : hA.at h.n = some (.cells [.lit (.int .i64 g.pool), .lit (.int .i64 g.seed)] 56) := hhA ▸ at_push_n _ _
      have lG := at_lt GA
      have LG := ld_at (T := tabOf Try.prog NT0) GA
      have BA := ((he.step eA).2 _ lb4).trans B4
      have lB := at_lt BA
      have LB := ld_at (T := tabOf Try.prog NT0) BA
      simp only [core, Nat.reduceAdd, Nat.reduceSub, Nat.reduceMul, Nat.reduceLT, Nat.reduceEqDiff, reduceCtorEq, Nat.reduceLeDiff, Int.reduceLE, Int.reduceLT, Int.reduceToNat, hn, g3, g4, g7, g8, g9, g13, g67, g68, g69, hc, hlt, hld, hld0, f1, f2]
      rw [← hhA]
      clear hhA
      by_cases hin : ((ofl.take i).any fun g => g.pool == pool && g.seed == seed) = true
      · simp only [core, Nat.reduceAdd, Nat.reduceSub, Nat.reduceMul, Nat.reduceLT, Nat.reduceEqDiff, reduceCtorEq, Nat.reduceLeDiff, Int.reduceLE, Int.reduceLT, Int.reduceToNat, hn, g3, g4, g7, g8, g9, g13, g67, g68, g69, hin, hws]
        refine ih _ _ ⟨he.step eA, ?_⟩
        simp only [core, Nat.reduceAdd, Nat.reduceSub, Nat.reduceMul, Nat.reduceLT, Nat.reduceEqDiff, reduceCtorEq, Nat.reduceLeDiff, Int.reduceLE, Int.reduceLT, Int.reduceToNat, hn, g3, g4, g7, g8, g9, g13, g67, g68, g69, hany, hin, Bool.true_or]
      · have hin : ((ofl.take i).any fun g => g.pool == pool && g.seed == seed) = false := by simpa using hin
        simp only [core, Nat.reduceAdd, Nat.reduceSub, Nat.reduceMul, Nat.reduceLT, Nat.reduceEqDiff, reduceCtorEq, Nat.reduceLeDiff, Int.reduceLE, Int.reduceLT, Int.reduceToNat, hn, g3, g4, g7, g8, g9, g13, g67, g68, g69, hin, LG, lG, LB, lB, a_eqM, eqM_eq, hws]
        refine ih _ _ ⟨he.step eA, ?_⟩
        simp only [core, Nat.reduceAdd, Nat.reduceSub, Nat.reduceMul, Nat.reduceLT, Nat.reduceEqDiff, reduceCtorEq, Nat.reduceLeDiff, Int.reduceLE, Int.reduceLT, Int.reduceToNat, hn, g3, g4, g7, g8, g9, g13, g67, g68, g69, hany, hin, Bool.false_or]
    · rintro t h5 hc ⟨he5, hn, g3, g4, g7, g8, g9, g13, g67, g68, g69⟩
      obtain ⟨fnd, hfnd⟩ : ∃ fnd, fnd = ofl.any fun g => g.pool == pool && g.seed == seed := ⟨_, rfl⟩
      rw [List.take_length, ← hfnd] at g13
      have E5 := E4.step he5
      have A5 := (he5.2 _ la4).trans A4
      have B5 := (he5.2 _ lb4).trans B4
      have la5 := at_lt A5
      have lb5 := at_lt B5
      have LA5 := ld_at (T := tabOf Try.prog NT0) A5
      simp only [core, Nat.reduceAdd, Nat.reduceSub, Nat.reduceMul, Nat.reduceLT, Nat.reduceEqDiff, reduceCtorEq, Nat.reduceLeDiff, Int.reduceLE, Int.reduceLT, Int.reduceToNat, hn, g3, g4, g7, g8, g9, g13, g67, g68, g69, hc, LA5, la5]
      refine (all_x (hm.ext E5 (Nat.le_refl _)) hpl).mono ?_
      rintro vl h6 ⟨e6, hvl⟩
      have E6 := E5.step e6
      have A6 := (e6.2 _ la5).trans A5
      have B6 := (e6.2 _ lb5).trans B5
      have la6 := at_lt A6
      have lb6 := at_lt B6
      have y1 := hvl.isSl
      have y2 := hvl.lenD
      obtain ⟨all, hal'⟩ : ∃ all, all = allC m := ⟨_, rfl⟩
      rw [← hal'] at hvl y2
      have halln : all.length ≤ 160 := by rw [hal']; omega
      simp only [core, Nat.reduceAdd, Nat.reduceSub, Nat.reduceMul, Nat.reduceLT, Nat.reduceEqDiff, reduceCtorEq, Nat.reduceLeDiff, Int.reduceLE, Int.reduceLT, Int.reduceToNat, hn, g3, g4, g7, g8, g9, g13, g67, g68, g69, y1, y2]
      refine WB_for all.length (fun i t h => Ext h6.n h6 h ∧ t.n = 121 ∧ t.get 3 = .ptr H.n 0 ∧ t.get 4 = .ptr (H.n + 1) 0 ∧ t.get 7 = va ∧ t.get 8 = .lit (.int .i64 kk) ∧ t.get 13 = .lit (.bool fnd) ∧ t.get 9 = .lit (.bool im) ∧ t.get 16 = .lit (.bool ((all.take i).any fun g => g.pool == pool && g.seed == seed)) ∧ t.get 81 = vl ∧ t.get 82 = .lit (.int .i64 all.length) ∧ t.get 83 = .lit (.int .i64 i)) ?_ ?_ _ _ ?_
      · rintro i t h hlt hc ⟨he, hn, g3, g4, g7, g8, g13, g9, g16, g81, g82, g83⟩ ih
        have hws := wrap_succ hlt (by omega)
        obtain ⟨g, hg⟩ : ∃ g, all[i]? = some g := ⟨_, List.getElem?_eq_getElem hlt⟩
        obtain ⟨c, hc1, hld, hld0⟩ := hvl.atE (T := tabOf Try.prog NT0) he (show RPg.z = 2 from rfl) hg
        obtain ⟨rfl, I1, I2⟩ := RPg_is.1 hc1
        have hany := any_take (p := fun g => g.pool == pool && g.seed == seed) hg
        obtain ⟨hA, hhA⟩ : ∃ hA, hA = h.push (.cells [.lit (.int .i64 g.pool), .lit (.int .i64 g.seed)] 56) := ⟨_, rfl⟩
        have eA : Ext h.n h hA := hhA ▸ (Ext.refl _ _).push _ (Nat.le_refl _)
        have GA : hA.at h.n = some (.cells [.lit (.int .i64 g.pool), .lit (.int .i64 g.seed)] 56) := hhA ▸ at_push_n _ _
        have lG := at_lt GA
        have LG := ld_at (T := tabOf Try.prog NT0) GA
        have BA := ((he.step eA).2 _ lb6).trans B6
        have lB := at_lt BA
        have LB := ld_at (T := tabOf Try.prog NT0) BA
        simp only [core, Nat.reduceAdd, Nat.reduceSub, Nat.reduceMul, Nat.reduceLT, Nat.reduceEqDiff, reduceCtorEq, Nat.reduceLeDiff, Int.reduceLE, Int.reduceLT, Int.reduceToNat, hn, g3, g4, g7, g8, g13, g9, g16, g81, g82, g83, hc, hlt, hld, hld0, y1, y2]
        rw [← hhA]
        clear hhA
        by_cases hin : ((all.take i).any fun g => g.pool == pool && g.seed == seed) = true
        · simp only [core, Nat.reduceAdd, Nat.reduceSub, Nat.reduceMul, Nat.reduceLT, Nat.reduceEqDiff, reduceCtorEq, Nat.reduceLeDiff, Int.reduceLE, Int.reduceLT, Int.reduceToNat, hn, g3, g4, g7, g8, g13, g9, g16, g81, g82, g83, hin, hws]
          refine ih _ _ ⟨he.step eA, ?_⟩
          simp only [core, Nat.reduceAdd, Nat.reduceSub, Nat.reduceMul, Nat.reduceLT, Nat.reduceEqDiff, reduceCtorEq, Nat.reduceLeDiff, Int.reduceLE, Int.reduceLT, Int.reduceToNat, hn, g3, g4, g7, g8, g13, g9, g16, g81, g82, g83, hany, hin, Bool.true_or]
        · have hin : ((all.take i).any fun g => g.pool == pool && g.seed == seed) = false := by simpa using hin
          simp only [core, Nat.reduceAdd, Nat.reduceSub, Nat.reduceMul, Nat.reduceLT, Nat.reduceEqDiff, reduceCtorEq, Nat.reduceLeDiff, Int.reduceLE, Int.reduceLT, Int.reduceToNat, hn, g3, g4, g7, g8, g13, g9, g16, g81, g82, g83, hin, LG, lG, LB, lB, a_eqM, eqM_eq, hws]
          refine ih _ _ ⟨he.step eA, ?_⟩
          simp only [core, Nat.reduceAdd, Nat.reduceSub, Nat.reduceMul, Nat.reduceLT, Nat.reduceEqDiff, reduceCtorEq, Nat.reduceLeDiff, Int.reduceLE, Int.reduceLT, Int.reduceToNat, hn, g3, g4, g7, g8, g13, g9, g16, g81, g82, g83, hany, hin, Bool.false_or]
      · rintro t h7 hc ⟨he7, hn, g3, g4, g7, g8, g13, g9, g16, g81, g82, g83⟩
        obtain ⟨lst, hlst⟩ : ∃ lst, lst = all.any fun g => g.pool == pool && g.seed == seed := ⟨_, rfl⟩
        rw [List.take_length, ← hlst] at g16
        have hfin : fnd = (im && lst) := by
          have hg : ∀ g : PgD, ((actF m g.pool g.seed).contains (kk : Int) && (g.pool == pool && g.seed == seed)) = (im && (g.pool == pool && g.seed == seed)) := fun g => by
            cases hp : (g.pool == pool && g.seed == seed) with
            | false => rw [Bool.and_false, Bool.and_false]
            | true =>
              rw [Bool.and_eq_true] at hp
              rw [eq_of_beq hp.1, eq_of_beq hp.2, ← hacts, ← him]
          rw [hfnd, hlst, hofl, hal']
          unfold ofC
          rw [List.any_filter]
          simp only [hg]
          cases im
          · simp
          · simp
        have E7 := E6.step he7
        have A7 := (he7.2 _ la6).trans A6
        have B7 := (he7.2 _ lb6).trans B6
        have la7 := at_lt A7
        have lb7 := at_lt B7
        have LA7 := ld_at (T := tabOf Try.prog NT0) A7
        have LB7 := ld_at (T := tabOf Try.prog NT0) B7
        rcases Bool.eq_false_or_eq_true im with hi | hi
        · rw [hi] at g9
          rw [hi, Bool.true_and] at hfin
          rw [hfin] at g13
          rcases Bool.eq_false_or_eq_true lst with hl | hl
          all_goals
            rw [hl] at g13 g16
            simp only [core, Nat.reduceAdd, Nat.reduceSub, Nat.reduceMul, Nat.reduceLT, Nat.reduceEqDiff, reduceCtorEq, Nat.reduceLeDiff, Int.reduceLE, Int.reduceLT, Int.reduceToNat, hn, g3, g4, g7, g8, g13, g9, g16, g81, g82, g83, hc]
            refine lives09_c ?_
            simp only [core, Nat.reduceAdd, Nat.reduceSub, Nat.reduceMul, Nat.reduceLT, Nat.reduceEqDiff, reduceCtorEq, Nat.reduceLeDiff, Int.reduceLE, Int.reduceLT, Int.reduceToNat, hn, g3, g4, g7, g8, g13, g9, g16, g81, g82, g83]
        · rw [hi] at g9
          rw [hi, Bool.false_and] at hfin
          rw [hfin] at g13
          simp only [core, Nat.reduceAdd, Nat.reduceSub, Nat.reduceMul, Nat.reduceLT, Nat.reduceEqDiff, reduceCtorEq, Nat.reduceLeDiff, Int.reduceLE, Int.reduceLT, Int.reduceToNat, hn, g3, g4, g7, g8, g13, g9, g16, g81, g82, g83, hc, LA7, la7, o1, o2, o3]
          obtain ⟨h9, hh9⟩ : ∃ h9, h9 = (h7.push (.cells [.lit (.int .i64 m.epoch), vo, vp, vb, .lit (.int .i64 m.leaf)] 31)).push (.cells [] 43) := ⟨_, rfl⟩
          have E9' : Ext h7.n h7 h9 := hh9 ▸ ((Ext.refl _ _).push _ (Nat.le_refl _)).push _ (by rw [n_push]; omega)
          have E9 := E7.step E9'
          have N9 : h9.at h7.n = some (.cells [.lit (.int .i64 m.epoch), vo, vp, vb, .lit (.int .i64 m.leaf)] 31) := hh9 ▸ (at_push_lt _ (by rw [n_push]; omega)).trans (at_push_n _ _)
          have P9 : h9.at (h7.n + 1) = some (.cells [] 43) := hh9 ▸ at_push_n _ _
          have n9 : h9.n = h7.n + 2 := by rw [hh9, n_push, n_push]
          rw [← hh9]
          clear hh9
          have hap := fresh_osds (hm.o.ext E9 (Nat.le_refl _)) hz hlo P9
          have A9 := (E9'.2 _ la7).trans A7
          have la9 := at_lt A9
          have LA9 := ld_at (T := tabOf Try.prog NT0) A9
          obtain ⟨h10, hh10⟩ : ∃ h10, h10 = h9.push (.cells (osC m.osds) 43) := ⟨_, rfl⟩
          have e10 : Ext h9.n h9 h10 := hh10 ▸ (Ext.refl _ _).push _ (Nat.le_refl _)
          have O10 : h10.at h9.n = some (.cells (osC m.osds) 43) := hh10 ▸ at_push_n _ _
          rw [← hh10] at hap
          clear hh10
          have N10 := (e10.2 _ (at_lt N9)).trans N9
          have l10 := at_lt N10
          obtain ⟨vs, hvs⟩ : ∃ vs, vs = AV.sl h9.n 0 m.osds.length (.un 6) := ⟨_, rfl⟩
          have s0 : vs.one = true := by rw [hvs]; rfl
          have s1 : Ex.isSl vs = true := by rw [hvs]; rfl
          have s2 : Ex.lenD vs = m.osds.length := by rw [hvs]; rfl
          have s3 : Ex.slB vs = h9.n := by rw [hvs]; rfl
          have s4 : Ex.slO vs = 0 := by rw [hvs]; rfl
          rw [← hvs] at hap
          obtain ⟨h11, hh11⟩ : ∃ h11, h11 = h10.put h7.n (.cells [.lit (.int .i64 m.epoch), vs, vp, vb, .lit (.int .i64 m.leaf)] 31) := ⟨_, rfl⟩
          have N11 : h11.at h7.n = some (.cells [.lit (.int .i64 m.epoch), vs, vp, vb, .lit (.int .i64 m.leaf)] 31) := by rw [hh11]; exact at_put_same _ l10
          have O11 : h11.at h9.n = some (.cells (osC m.osds) 43) := by rw [hh11, at_put_ne _ (show h7.n ≠ h9.n by omega)]; exact O10
          have n11 : h11.n = h10.n := by rw [hh11, n_put]
          have l11 := at_lt N11
          have lo11 := at_lt O11
          have LN11 := ld_at (T := tabOf Try.prog NT0) N11
          obtain ⟨x, hx⟩ : ∃ x, m.osds[kk]? = some x := ⟨_, List.getElem?_eq_getElem hkl⟩
          have hput := put_up hx
          have k1 := e10.1
          have E11 : Ext H.n H h11 := by rw [hh11]; exact (E9.step e10).put _ (by have := E7.1; omega)
          obtain ⟨h12, hh12⟩ : ∃ h12, h12 = h11.put h9.n (.cells (osC (m.osds.set kk { x with up := false })) 43) := ⟨_, rfl⟩
          have N12 : h12.at h7.n = some (.cells [.lit (.int .i64 m.epoch), vs, vp, vb, .lit (.int .i64 m.leaf)] 31) := by rw [hh12, at_put_ne _ (show h9.n ≠ h7.n by omega)]; exact N11
          have O12 : h12.at h9.n = some (.cells (osC (m.osds.set kk { x with up := false })) 43) := by rw [hh12]; exact at_put_same _ lo11
          have E12 : Ext H.n H h12 := by rw [hh12]; exact E11.put _ (by have := E7.1; omega)
          have B12 : h12.at (H.n + 1) = some (.cells [.lit (.int .i64 pool), .lit (.int .i64 seed)] 56) := by
            have := E7.1
            rw [hh12, at_put_ne _ (show h9.n ≠ H.n + 1 by omega), hh11, at_put_ne _ (show h7.n ≠ H.n + 1 by omega)]
            exact (e10.2 _ (by omega)).trans ((E9'.2 _ lb7).trans B7)
          have l12 := at_lt N12
          have lb12 := at_lt B12
          have LN12 := ld_at (T := tabOf Try.prog NT0) N12
          have LB12 := ld_at (T := tabOf Try.prog NT0) B12
          simp only [corem, WB_cond_s, put, ldL, WB_label, List.nil_append, List.drop_zero, List.take_zero, Nat.reduceAdd, Nat.reduceSub, Nat.reduceMul, Nat.reduceLT, Nat.reduceEqDiff, reduceCtorEq, Nat.reduceLeDiff, Int.reduceLE, Int.reduceLT, Int.reduceToNat, -put, hn, g3, g4, g7, g8, g13, g9, g16, g81, g82, g83, LA9, la9, hap, N10, l10, s0, s1, s2, s3, s4, hkl, ← hh11, LN11, l11, O11, lo11, hput, ← hh12, LN12, LB12, l12, lb12]
          have hro : ∀ y ∈ m.osds.set kk { x with up := false }, RO y := fun y hy => by
            rcases List.mem_or_eq_of_mem_set hy with hy | rfl
            · exact osds_ro hm y hy
            · exact osds_ro hm x (List.mem_of_getElem? hx)
          have hmd : MpAt (fun b => F b ∨ h9.n ≤ b) h12 (downO m kk x) vs vp vb := by
            refine ⟨?_, (hm.p.ext E12 (Nat.le_refl _)).lift fun b hb _ => ⟨rfl, .inl hb⟩, (hm.b.ext E12 (Nat.le_refl _)).lift fun b hb _ => ⟨rfl, .inl hb⟩⟩
            have hw := OwnL.ofOsds (G := fun _ => False) (n0 := h9.n) (Nat.le_refl _) O12 hro
            rw [List.length_set, ← hvs] at hw
            exact hw.toSl (fun _ hf => hf.elim) fun b hb => .inr hb
          have hokd : OkMp (downO m kk x) := ⟨⟨(by
            show (m.osds.set kk { x with up := false }).length * 40 ≤ 140737488351232
            rw [List.length_set]; exact hlo), fun _ _ => trivial⟩, hok.2⟩
          have hnin : (kk : Int) ∉ actF m pool seed := fun hh => by
            rw [hacts, List.contains_iff_mem.2 hh] at him
            rw [hi] at him
            cases him
          have X7 : Ext h3.n h3 h7 := ((e4.step he5).step e6).step he7
          have X11 : Ext h3.n h3 h11 := by rw [hh11]; exact ((X7.step E9').step e10).put _ X7.1
          have X12 : Ext h3.n h3 h12 := by rw [hh12]; exact X11.put _ (by have := X7.1; omega)
          refine (act_x (m := downO m kk x) pool seed hmd hokd.okM hokd.1.1 hokd.2.1.1).mono ?_
          rintro vz h13 ⟨e13, hvz⟩
          rw [act_stab hx hnin, ← hacts] at hvz
          have z1 := hvz.isSl
          simp only [core, Nat.reduceAdd, Nat.reduceSub, Nat.reduceMul, Nat.reduceLT, Nat.reduceEqDiff, reduceCtorEq, Nat.reduceLeDiff, Int.reduceLE, Int.reduceLT, Int.reduceToNat, hn, g3, g4, g7, g8, g13, g9, g16, g81, g82, g83]
          refine (ints_x hvz (hva.ext (X12.step e13) (Nat.le_refl _)) (by omega)).mono ?_
          rintro _ h14 ⟨rfl, rfl⟩
          have hbb : (acts == acts) = true := beq_self_eq_true _
          simp only [core, Nat.reduceAdd, Nat.reduceSub, Nat.reduceMul, Nat.reduceLT, Nat.reduceEqDiff, reduceCtorEq, Nat.reduceLeDiff, Int.reduceLE, Int.reduceLT, Int.reduceToNat, hn, g3, g4, g7, g8, g13, g9, g16, g81, g82, g83, hbb]
          refine lives09_c ?_
          simp only [core, Nat.reduceAdd, Nat.reduceSub, Nat.reduceMul, Nat.reduceLT, Nat.reduceEqDiff, reduceCtorEq, Nat.reduceLeDiff, Int.reduceLE, Int.reduceLT, Int.reduceToNat, hn, g3, g4, g7, g8, g13, g9, g16, g81, g82, g83]
      · refine ⟨Ext.refl _ _, ?_⟩
        simp only [core, Nat.reduceAdd, Nat.reduceSub, Nat.reduceMul, Nat.reduceLT, Nat.reduceEqDiff, reduceCtorEq, Nat.reduceLeDiff, Int.reduceLE, Int.reduceLT, Int.reduceToNat, hn, g3, g4, g7, g8, g9, g13, g67, g68, g69]
        simp
    · refine ⟨Ext.refl _ _, ?_⟩
      simp only [core, Nat.reduceAdd, Nat.reduceSub, Nat.reduceMul, Nat.reduceLT, Nat.reduceEqDiff, reduceCtorEq, Nat.reduceLeDiff, Int.reduceLE, Int.reduceLT, Int.reduceToNat, hn, g3, g4, g7, g8, g9, g40, g41, g42]
      simp
  · simp only [core, Nat.reduceAdd, Nat.reduceSub, Nat.reduceMul, Nat.reduceLT, Nat.reduceEqDiff, reduceCtorEq, Nat.reduceLeDiff, Int.reduceLE, Int.reduceLT, Int.reduceToNat]
    simp
end Go.Proofs.Ytkgbeihcepociaa.Ex
namespace Go.Proofs.Ytkgbeihcepociaa
open Go.RowKit Go.ChangeShapes Go.WideShapes Go.ChangeAt
set_option maxRecDepth 100000 in
theorem placeApart_walk {H : Type} {enc : TypeId × Value → H} {W : World} {base : Nat} {v0 v1 v2 : Value} {d0 d1 d2 : DataW H} {p0 p1 p2 : List MemPlace}
    (k0 : Value.okWide Try.prog W .any base 31 v0) (h0 : DataW.Trod enc Try.prog W 0 (fun _ => true) true 31 v0 d0 p0)
    (k1 : Value.okWide Try.prog W .any base 56 v1) (h1 : DataW.Trod enc Try.prog W 0 (fun _ => true) true 56 v1 d1 p1)
    (k2 : Value.okWide Try.prog W .any base 81 v2) (h2 : DataW.Trod enc Try.prog W 0 (fun _ => true) true 81 v2 d2 p2)
    {ts : List TypeId} {ds : List (DataW H)} (hsz : (DataW.weightsEach Try.prog ([31, 56, 81] ++ ts) ([d0, d1, d2] ++ ds)).all (· ≤ reachBytes) = true) :
    Calls Try.prog 12 #[v0, v1, v2] W fun e w' => e = .returned (.bool true) ∧ Below W.heap.size W w' := by
  obtain ⟨c0, m, r0, i0, ok0⟩ := Ex.open_agg Ex.opensA_Mp Try.underlying31 rfl k0 h0 (weights_le hsz (j := 0) rfl rfl)
  obtain ⟨c1, g, r1, i1, -⟩ := Ex.open_agg Ex.opensA_Pg Try.underlying56 rfl k1 h1 (weights_le hsz (j := 1) rfl rfl)
  obtain ⟨n, rfl, rfl, rfl, wf⟩ := open_int Try.underlying81 k2 h2
  obtain ⟨vo, vp, vb, rfl, a1, a2, a3, -⟩ := Ex.RMp_is.1 i0
  obtain ⟨rfl, -⟩ := Ex.RPg_is.1 i1
  simp only [Lit.wf, IntKind.min, IntKind.max, IntKind.signed, IntKind.bits] at wf
  simp at wf
  exact Ex.law_join (Ex.rels_cons r0 (Ex.rels_cons r1 (Ex.rels_cons (Ex.rel_lit rfl) Ex.rels_nil))) (Ex.placeApart_m g.pool g.seed n wf.1 ⟨a1, a2, a3⟩ (fun b hb => hb) ok0)
end Go.Proofs.Ytkgbeihcepociaa
end
