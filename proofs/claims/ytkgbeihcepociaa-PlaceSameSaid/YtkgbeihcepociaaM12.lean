/- Part 12 of the proof: Cpy, Sel, Act, Bts, Abs, Open, Opa, Opb. -/
import Derived.Test.YtkgbeihcepociaaRows
import Derived.ProofKit
import Derived.OpenShut
import Derived.ShutString
import Derived.ChangeOld
import Derived.SizedLaws
import Derived.Test.YtkgbeihcepociaaM11
section
/- A copy is chosen: the code. -/
set_option linter.unusedSimpArgs false
set_option linter.unusedVariables false
set_option maxRecDepth 10000
set_option maxHeartbeats 4000000
namespace Go.Proofs.Ytkgbeihcepociaa.Ex
open Go
theorem OwnL.low {α : Type} {R : Rep α} {n0 : Nat} {h : AH} {v : AV} {e : TypeId} {xs : List α} (ho : OwnL R (fun _ => False) n0 h v e xs) {b off n : Nat} {cap : Cap} (hv : v = .sl b off n cap) : n0 ≤ b ∧ b < h.n := by
  obtain ⟨L, h1, h2⟩ := ho
  rcases h1.2 with ⟨hh, _⟩ | ⟨p, hh, hp, hat⟩
  · rw [hh] at hv; cases hv
  · rw [hh] at hv; cases hv; exact ⟨hp, at_lt hat⟩
theorem OwnL.put {α : Type} {R : Rep α} {n0 : Nat} {h : AH} {v : AV} {e : TypeId} {xs : List α} (ho : OwnL R (fun _ => False) n0 h v e xs) {p : Nat} (hp : p < n0) (x : AB) : OwnL R (fun _ => False) n0 (h.put p x) v e xs :=
  ho.lift (fun b off n cap hv => at_put_ne x (by have := ho.low hv; omega)) (fun b hb => hb.elim)

theorem copy_x {F : Nat → Prop} {H : AH} {m : MapD} {vo vp vb vs vq : AV} {x root : Int} {os ds : List Int} {p : Nat} (k : Nat) (hm : MpAt F H m vo vp vb) (hok : OkM m) (hlo : Sm 40 m.osds) (hg : goodF m = true) (hr : root < 0) (h3 : kindF m root ≤ 3)
    (hp : H.at p = some (.cells (chC m vo vp vb x vs vq) 170)) (hs : OwnL RInt (fun _ => False) (p + 1) H vs 3 os) (hq : OwnL RInt (fun _ => False) (p + 1) H vq 3 ds) (hdj : Disj vs vq) (hsl : os.length ≤ k) (hql : ds.length ≤ k) (hk : k ≤ 8) (hi : ∀ d ∈ ds, 0 ≤ d → d ∈ os) :
    WC Try.prog (tabOf Try.prog NT0) S0 131 [.ptr p 0, .lit (.int .i64 root), .lit (.int .i64 k)] H fun v h' => v = .tup [] ∧ Ext p H h' ∧ ∃ vs' vq', h'.at p = some (.cells (chC m vo vp vb x vs' vq') 170) ∧
      OwnL RInt (fun _ => False) (p + 1) h' vs' 3 (copyR m x root (os, ds) k).1 ∧ OwnL RInt (fun _ => False) (p + 1) h' vq' 3 (copyR m x root (os, ds) k).2 ∧ Disj vs' vq' := by
  refine WC_fn Try.func131 rfl rfl ?_
  have lp := at_lt hp
  have hvs := hs.toSl (F := fun _ => True) (fun _ _ => trivial) (fun _ _ => trivial)
  have hvq := hq.toSl (F := fun _ => True) (fun _ _ => trivial) (fun _ _ => trivial)
  simp only [core, WB_cond_s, put, ldL, WB_label, List.nil_append, List.drop_zero, List.take_zero, Nat.reduceAdd, Nat.reduceSub, Nat.reduceMul, Nat.reduceLT, Nat.reduceEqDiff, reduceCtorEq, Nat.reduceLeDiff, Int.reduceLE, Int.reduceLT, Int.reduceToNat, Try.ntmps131]
  refine WB_for 50 (fun i t h => Ext H.n H h ∧ firstR m x root (os, ds) k i = none ∧ t.n = 45 ∧ t.get 0 = .ptr p 0 ∧ t.get 1 = .lit (.int .i64 root) ∧ t.get 2 = .lit (.int .i64 k) ∧ t.get 10 = .lit (.int .i64 i)) ?_ ?_ _ _ ?_
  · rintro i t h hi50 hc ⟨he, hf, hn, g0, g1, g2, g10⟩ ih
    have hc : ((i : Int) < 50) = True := by simp only [eq_iff_iff, iff_true]; omega
    have hws := wrap_succ hi50 (by omega)
    have hwk : IntKind.i64.wrap ((k : Int) + (i : Int)) = ((k + i : Nat) : Int) := (wrap_in (by omega) (by omega)).trans (by omega)
    have P1 := (he.2 _ lp).trans hp
    have hf1 : firstR m x root (os, ds) k (i + 1) = tryR m x root (os, ds) ((k + i : Nat) : Int) := firstR_next hf
    have hT := try_same hg (x := x) (r := ((k + i : Nat) : Int)) (os := os) (ds := ds) h3 hr hi
    simp only [core, WB_cond_s, put, ldL, WB_label, List.nil_append, List.drop_zero, List.take_zero, Nat.reduceAdd, Nat.reduceSub, Nat.reduceMul, Nat.reduceLT, Nat.reduceEqDiff, reduceCtorEq, Nat.reduceLeDiff, Int.reduceLE, Int.reduceLT, Int.reduceToNat, hn, g0, g1, g2, g10, hc, hwk]
    refine (tryC_x root _ (hm.ext he (Nat.le_refl _)) hok hlo hg P1 (hvs.ext he (Nat.le_refl _)) (hvq.ext he (Nat.le_refl _)) (by omega) (by omega) h3).mono ?_
    rintro _ h2 ⟨e2, rfl⟩
    have E2 := he.step e2
    obtain ⟨⟨o, d, b⟩, hy⟩ : ∃ y, y = tryC m root x ((k + i : Nat) : Int) os ds := ⟨_, rfl⟩
    rw [← hy] at hT ⊢
    cases b with
    | false =>
      simp only [core, WB_cond_s, put, ldL, WB_label, List.nil_append, List.drop_zero, List.take_zero, Nat.reduceAdd, Nat.reduceSub, Nat.reduceMul, Nat.reduceLT, Nat.reduceEqDiff, reduceCtorEq, Nat.reduceLeDiff, Int.reduceLE, Int.reduceLT, Int.reduceToNat, hn, g0, g1, g2, g10, tryV, hws]
      refine ih _ _ ⟨E2, by rw [hf1, hT]; rfl, ?_⟩
      simp only [core, WB_cond_s, put, ldL, WB_label, List.nil_append, List.drop_zero, List.take_zero, Nat.reduceAdd, Nat.reduceSub, Nat.reduceMul, Nat.reduceLT, Nat.reduceEqDiff, reduceCtorEq, Nat.reduceLeDiff, Int.reduceLE, Int.reduceLT, Int.reduceToNat, hn, g0, g1, g2, g10]
    | true =>
    have hT : tryR m x root (os, ds) ((k + i : Nat) : Int) = some (o, d) := hT
    rw [hT] at hf1
    have hS : copyR m x root (os, ds) k = (os ++ [o], ds ++ [d]) := by
      unfold copyR
      rw [firstR_le hf1 50 (by omega)]
    obtain ⟨I1, I2⟩ := tryR_i64 hm hT
    have P2 := (E2.2 _ lp).trans hp
    unfold chC at P2
    have LP2 := ld_at (T := tabOf Try.prog NT0) P2
    have l2 := at_lt P2
    have hs2 := hs.ext E2 (Nat.le_refl _)
    have hq2 := hq.ext E2 (Nat.le_refl _)
    have q2 := e2.1
    have q3 := he.1
    simp only [core, WB_cond_s, put, ldL, WB_label, List.nil_append, List.drop_zero, List.take_zero, Nat.reduceAdd, Nat.reduceSub, Nat.reduceMul, Nat.reduceLT, Nat.reduceEqDiff, reduceCtorEq, Nat.reduceLeDiff, Int.reduceLE, Int.reduceLT, Int.reduceToNat, hn, g0, g1, g2, g10, tryV, LP2, l2]
    obtain ⟨h3', hh3⟩ : ∃ h3', h3' = h2.push (.cells [.lit (.int .i64 o)] 3) := ⟨_, rfl⟩
    have e3 : Ext h2.n h2 h3' := hh3 ▸ (Ext.refl _ _).push _ (Nat.le_refl _)
    have A3 : h3'.at h2.n = some (.cells [.lit (.int .i64 o)] 3) := hh3 ▸ at_push_n h2 _
    have q4 := e3.1
    rw [← hh3]
    refine WOp_app ((hs2.ext e3 (Nat.le_refl _)).snoc (by kernel_rfl) (by kernel_rfl) (by kernel_rfl) (zv := .lit (.int .i64 0)) (by kernel_rfl) (by' := 8) (by kernel_rfl) rfl (by decide) (by decide) A3 (y := o) ⟨rfl, I1⟩ (by omega) (by omega) (by omega)) ?_
    rintro s8 h4 ⟨ho4, e4, k4⟩
    have P4 := ((e4.2 _ (by omega)).trans (e3.2 _ l2)).trans P2
    have LP4 := ld_at (T := tabOf Try.prog NT0) P4
    have l4 := at_lt P4
    have t8 := ho4.one
    obtain ⟨hq4, hd4⟩ := (hq2.ext e3 (Nat.le_refl _)).other hdj k4
    simp only [core, WB_cond_s, put, ldL, WB_label, List.nil_append, List.drop_zero, List.take_zero, Nat.reduceAdd, Nat.reduceSub, Nat.reduceMul, Nat.reduceLT, Nat.reduceEqDiff, reduceCtorEq, Nat.reduceLeDiff, Int.reduceLE, Int.reduceLT, Int.reduceToNat, hn, g0, g1, g2, g10, LP4, l4, P4, t8]
    obtain ⟨h5, hh5⟩ : ∃ h5, h5 = h4.put p (.cells [.lit (.int .i64 m.epoch), vo, vp, vb, .lit (.int .i64 m.leaf), .lit (.int .u32 x), s8, vq] 170) := ⟨_, rfl⟩
    have e5 : Ext p h4 h5 := hh5 ▸ (Ext.refl _ _).put _ (Nat.le_refl _)
    have P5 : h5.at p = some (.cells [.lit (.int .i64 m.epoch), vo, vp, vb, .lit (.int .i64 m.leaf), .lit (.int .u32 x), s8, vq] 170) := hh5 ▸ at_put_same _ l4
    have ho5 : OwnL RInt (fun _ => False) (p + 1) h5 s8 3 (os ++ [o]) := hh5 ▸ ho4.put (by omega) _
    have hq5 : OwnL RInt (fun _ => False) (p + 1) h5 vq 3 ds := hh5 ▸ hq4.put (by omega) _
    have n5 : h5.n = h4.n := by rw [hh5, n_put]
    rw [← hh5]
    obtain ⟨h6, hh6⟩ : ∃ h6, h6 = h5.push (.cells [.lit (.int .i64 d)] 3) := ⟨_, rfl⟩
    have e6 : Ext h5.n h5 h6 := hh6 ▸ (Ext.refl _ _).push _ (Nat.le_refl _)
    have A6 : h6.at h4.n = some (.cells [.lit (.int .i64 d)] 3) := by rw [← n5, hh6]; exact at_push_n h5 _
    have q5 := e6.1
    rw [← hh6]
    refine WOp_app ((hq5.ext e6 (Nat.le_refl _)).snoc (by kernel_rfl) (by kernel_rfl) (by kernel_rfl) (zv := .lit (.int .i64 0)) (by kernel_rfl) (by' := 8) (by kernel_rfl) rfl (by decide) (by decide) A6 (y := d) ⟨rfl, I2⟩ (by omega) (by omega) (by omega)) ?_
    rintro s9 h7 ⟨ho7, e7, k7⟩
    have P7 := ((e7.2 _ (by omega)).trans (e6.2 _ (by omega))).trans P5
    have LP7 := ld_at (T := tabOf Try.prog NT0) P7
    have l7 := at_lt P7
    have t9 := ho7.one
    obtain ⟨ho7', hd7⟩ := (ho5.ext e6 (Nat.le_refl _)).other hd4.symm k7
    simp only [core, WB_cond_s, put, ldL, WB_label, List.nil_append, List.drop_zero, List.take_zero, Nat.reduceAdd, Nat.reduceSub, Nat.reduceMul, Nat.reduceLT, Nat.reduceEqDiff, reduceCtorEq, Nat.reduceLeDiff, Int.reduceLE, Int.reduceLT, Int.reduceToNat, hn, g0, g1, g2, g10, LP7, l7, P7, t9]
    have q7 := e4.1
    have q8 := e7.1
    have EE : Ext p H (h7.put p (.cells [.lit (.int .i64 m.epoch), vo, vp, vb, .lit (.int .i64 m.leaf), .lit (.int .u32 x), s8, s9] 170)) := by
      exact ((((((E2.mono (by omega)).trans (e3.mono (by omega))).trans (e4.mono (by omega))).trans e5).trans (e6.mono (by omega))).trans (e7.mono (by omega))).put _ (Nat.le_refl _)
    refine ⟨EE, s8, s9, rfl, ?_, ?_, hd7.symm⟩
    · rw [hS]; exact ho7'.put (by omega) _
    · rw [hS]; exact ho7.put (by omega) _
  · rintro t h hc ⟨he, hf, hn, g0, g1, g2, g10⟩
    have hc : ((50 : Int) < 50) = False := by decide
    have hc' : (((50 : Nat) : Int) < 50) = False := by decide
    have hS : copyR m x root (os, ds) k = (os, ds) := by
      unfold copyR
      rw [hf]
    simp only [core, WB_cond_s, put, ldL, WB_label, List.nil_append, List.drop_zero, List.take_zero, Nat.reduceAdd, Nat.reduceSub, Nat.reduceMul, Nat.reduceLT, Nat.reduceEqDiff, reduceCtorEq, Nat.reduceLeDiff, Int.reduceLE, Int.reduceLT, Int.reduceToNat, hn, g0, g1, g2, g10, hc, hc']
    refine ⟨by simp, ⟨he.1, fun b hb => he.2 b (by omega)⟩, vs, vq, (he.2 _ lp).trans hp, ?_, ?_, hdj⟩
    · rw [hS]; exact hs.ext he (Nat.le_refl _)
    · rw [hS]; exact hq.ext he (Nat.le_refl _)
  · simp only [core, WB_cond_s, put, ldL, WB_label, List.nil_append, List.drop_zero, List.take_zero, Nat.reduceAdd, Nat.reduceSub, Nat.reduceMul, Nat.reduceLT, Nat.reduceEqDiff, reduceCtorEq, Nat.reduceLeDiff, Int.reduceLE, Int.reduceLT, Int.reduceToNat]
    refine ⟨Ext.refl _ _, firstR_zero, ?_⟩
    (repeat' apply And.intro) <;> first | rfl | trivial
end Go.Proofs.Ytkgbeihcepociaa.Ex
end

section
/- The choice of osds: the program's. -/
set_option linter.unusedSimpArgs false
set_option linter.unusedVariables false
set_option maxRecDepth 10000
set_option maxHeartbeats 4000000
namespace Go.Proofs.Ytkgbeihcepociaa.Ex
open Go

theorem root_good {m : MapD} (hg : goodF m = true) {root : Int} (hr : root ∈ rootsR m) : root < 0 ∧ kindF m root ≤ 3 := by
  obtain ⟨h1, _, h3⟩ := roots_walk hg m.buckets.length (Nat.le_refl _)
  obtain ⟨c, hc, rfl⟩ := h3 root (h1.subset hr)
  have hc := List.mem_of_mem_take hc
  cases hb : bucketF m c.id with
  | none =>
    unfold bucketF at hb
    exact absurd (List.find?_eq_none.1 hb c hc) (by simp)
  | some b =>
    obtain ⟨g1, g2, g3, g4, g5, -⟩ := good_bkt hg hb
    refine ⟨by omega, ?_⟩
    rw [kind_bkt (by omega) hb]
    exact g4

theorem cnt_eq (n : Int) : (if 8 < (if n < 0 then 0 else n) then 8 else (if n < 0 then 0 else n)) = ((cntF n : Nat) : Int) := by
  unfold cntF
  repeat' split
  all_goals omega

theorem selectC_x {F : Nat → Prop} {H : AH} {m : MapD} {vo vp vb : AV} (x n : Int) (hm : MpAt F H m vo vp vb) (hok : OkM m) (hlo : Sm 40 m.osds) :
    WC Try.prog (tabOf Try.prog NT0) S0 94 [mpV m vo vp vb, .lit (.int .u32 x), .lit (.int .i64 n)] H fun v h' => Ext H.n H h' ∧ IsSl RInt (fun b => H.n ≤ b) h' v (selectF m x n) := by
  refine WC_fn Try.func94 rfl rfl ?_
  have o1 := hm.o.one
  have o2 := hm.p.one
  have o3 := hm.b.one
  have EP : ∀ x, Ext H.n H (H.push x) := fun x => (Ext.refl _ _).push _ (Nat.le_refl _)
  simp only [core, WB_cond_s, put, ldL, WB_label, List.nil_append, List.drop_zero, List.take_zero, Nat.reduceAdd, Nat.reduceSub, Nat.reduceMul, Nat.reduceLT, Nat.reduceEqDiff, reduceCtorEq, Nat.reduceLeDiff, Int.reduceLE, Int.reduceLT, Int.reduceToNat, Try.ntmps94, mpV, o1, o2, o3]
  obtain ⟨h1, hh1⟩ : ∃ h1, h1 = H.push (.cells [.lit (.int .i64 m.epoch), vo, vp, vb, .lit (.int .i64 m.leaf)] 31) := ⟨_, rfl⟩
  have E1 : Ext H.n H h1 := hh1 ▸ EP _
  have A1 : h1.at H.n = some (.cells [.lit (.int .i64 m.epoch), vo, vp, vb, .lit (.int .i64 m.leaf)] 31) := hh1 ▸ at_push_n _ _
  have l1 := at_lt A1
  rw [← hh1]
  clear hh1
  refine (goodC_x (hm.ext E1 (Nat.le_refl _)) hok).mono ?_
  rintro _ h2 ⟨e2, rfl⟩
  have E2 := E1.step e2
  have A2 := (e2.2 _ l1).trans A1
  have l2 := at_lt A2
  have LA2 := ld_at (T := tabOf Try.prog NT0) A2
  cases hg : goodF m with
  | false =>
    simp only [core, WB_cond_s, put, ldL, WB_label, List.nil_append, List.drop_zero, List.take_zero, Nat.reduceAdd, Nat.reduceSub, Nat.reduceMul, Nat.reduceLT, Nat.reduceEqDiff, reduceCtorEq, Nat.reduceLeDiff, Int.reduceLE, Int.reduceLT, Int.reduceToNat]
    refine ⟨E2, ?_⟩
    unfold selectF
    rw [hg]
    exact IsSl.nil
  | true =>
  simp only [core, WB_cond_s, put, ldL, WB_label, List.nil_append, List.drop_zero, List.take_zero, Nat.reduceAdd, Nat.reduceSub, Nat.reduceMul, Nat.reduceLT, Nat.reduceEqDiff, reduceCtorEq, Nat.reduceLeDiff, Int.reduceLE, Int.reduceLT, Int.reduceToNat, LA2, l2]
  refine (rootsG_x (hm.ext E2 (Nat.le_refl _)) hok hg).mono ?_
  rintro vr h3 ⟨e3, hr3⟩
  have E3 := E2.step e3
  have A3 := (e3.2 _ l2).trans A2
  have l3 := at_lt A3
  have LA3 := ld_at (T := tabOf Try.prog NT0) A3
  have r1 := hr3.isSl
  have r2 := hr3.lenD
  simp only [core, WB_cond_s, put, ldL, WB_label, List.nil_append, List.drop_zero, List.take_zero, Nat.reduceAdd, Nat.reduceSub, Nat.reduceMul, Nat.reduceLT, Nat.reduceEqDiff, reduceCtorEq, Nat.reduceLeDiff, Int.reduceLE, Int.reduceLT, Int.reduceToNat, r1, r2, -WB_cond_s]
  rw [WB_cond_s]
  simp only [core, WB_cond_s, put, ldL, WB_label, List.nil_append, List.drop_zero, List.take_zero, Nat.reduceAdd, Nat.reduceSub, Nat.reduceMul, Nat.reduceLT, Nat.reduceEqDiff, reduceCtorEq, Nat.reduceLeDiff, Int.reduceLE, Int.reduceLT, Int.reduceToNat, -WB_cond_s]
  cases hrt : rootsR m with
  | nil =>
    refine ⟨fun _ => ⟨E3, ?_⟩, fun hq => absurd hq (by decide)⟩
    unfold selectF
    rw [hg, hrt]
    exact IsSl.nil
  | cons root rest =>
  obtain ⟨hr0, hk3⟩ := root_good hg (root := root) (by rw [hrt]; simp)
  have hrl : (0 : Nat) < (rootsR m).length := by rw [hrt]; simp
  have hrg : (rootsR m).getD 0 0 = root := by rw [hrt]; rfl
  have hsel : selectF m x n = (selN m x root (cntF n)).1 := by unfold selectF; rw [hg, hrt]; rfl
  rw [← hrt]
  refine ⟨fun hq => absurd (eq_of_beq hq) (by omega), fun hq0 => ?_⟩
  simp only [core, WB_cond_s, put, ldL, WB_label, List.nil_append, List.drop_zero, List.take_zero, Nat.reduceAdd, Nat.reduceSub, Nat.reduceMul, Nat.reduceLT, Nat.reduceEqDiff, reduceCtorEq, Nat.reduceLeDiff, Int.reduceLE, Int.reduceLT, Int.reduceToNat, LA3, l3, o1, o2, o3]
  obtain ⟨h4, hh4⟩ : ∃ h4, h4 = h3.push (.cells [.lit (.int .i64 m.epoch), vo, vp, vb, .lit (.int .i64 m.leaf), .lit (.int .u32 x), .lit (.slice none 0 0), .lit (.slice none 0 0)] 170) := ⟨_, rfl⟩
  have P4 : h4.at h3.n = some (.cells (chC m vo vp vb x (.lit (.slice none 0 0)) (.lit (.slice none 0 0))) 170) := hh4 ▸ at_push_n _ _
  have e4 : Ext h3.n h3 h4 := hh4 ▸ (Ext.refl _ _).push _ (Nat.le_refl _)
  rw [← hh4]
  clear hh4
  simp only [cnt_eq]
  have hc8 := cnt_le n
  refine WB_for (cntF n) (fun k t h => ∃ vs vq, h.at h3.n = some (.cells (chC m vo vp vb x vs vq) 170) ∧ OwnL RInt (fun _ => False) (h3.n + 1) h vs 3 (selN m x root k).1 ∧ OwnL RInt (fun _ => False) (h3.n + 1) h vq 3 (selN m x root k).2 ∧ Disj vs vq ∧ Ext h3.n h3 h ∧ t.n = 39 ∧ t.get 7 = vr ∧ t.get 8 = .ptr h3.n 0 ∧ t.get 24 = .lit (.int .i64 (cntF n)) ∧ t.get 25 = .lit (.int .i64 k)) ?_ ?_ _ _ ?_
  · rintro k t h hlt hc ⟨vs, vq, P, hvs, hvq, hdj, he, hn, g7, g8, g24, g25⟩ ih
    have hws := wrap_succ hlt (by omega)
    have hld := (hr3.ext he (Nat.le_refl _)).int (T := tabOf Try.prog NT0) (e := 3) (by kernel_rfl) (by kernel_rfl) hrl
    rw [hrg, Nat.add_zero] at hld
    obtain ⟨q1, q2⟩ := selN_len m x root k
    simp only [core, WB_cond_s, put, ldL, WB_label, List.nil_append, List.drop_zero, List.take_zero, Nat.reduceAdd, Nat.reduceSub, Nat.reduceMul, Nat.reduceLT, Nat.reduceEqDiff, reduceCtorEq, Nat.reduceLeDiff, Int.reduceLE, Int.reduceLT, Int.reduceToNat, hn, g7, g8, g24, g25, hc, hld, r1, r2, hrl]
    refine (copy_x k (hm.ext (E3.step he) (Nat.le_refl _)) hok hlo hg hr0 hk3 P hvs hvq hdj q1 q2 (by omega) (selN_inv k)).mono ?_
    rintro _ h' ⟨rfl, e', vs', vq', P', hvs', hvq', hdj'⟩
    simp only [core, WB_cond_s, put, ldL, WB_label, List.nil_append, List.drop_zero, List.take_zero, Nat.reduceAdd, Nat.reduceSub, Nat.reduceMul, Nat.reduceLT, Nat.reduceEqDiff, reduceCtorEq, Nat.reduceLeDiff, Int.reduceLE, Int.reduceLT, Int.reduceToNat, hn, g7, g8, g24, g25, hws]
    refine ih _ _ ⟨vs', vq', P', hvs', hvq', hdj', he.trans e', ?_⟩
    simp only [core, WB_cond_s, put, ldL, WB_label, List.nil_append, List.drop_zero, List.take_zero, Nat.reduceAdd, Nat.reduceSub, Nat.reduceMul, Nat.reduceLT, Nat.reduceEqDiff, reduceCtorEq, Nat.reduceLeDiff, Int.reduceLE, Int.reduceLT, Int.reduceToNat, hn, g7, g8, g24, g25]
  · rintro t h hc ⟨vs, vq, P, hvs, hvq, hdj, he, hn, g7, g8, g24, g25⟩
    unfold chC at P
    have LP := ld_at (T := tabOf Try.prog NT0) P
    have lP := at_lt P
    have o4 := hvs.one
    simp only [core, WB_cond_s, put, ldL, WB_label, List.nil_append, List.drop_zero, List.take_zero, Nat.reduceAdd, Nat.reduceSub, Nat.reduceMul, Nat.reduceLT, Nat.reduceEqDiff, reduceCtorEq, Nat.reduceLeDiff, Int.reduceLE, Int.reduceLT, Int.reduceToNat, hn, g7, g8, g24, g25, hc, LP, lP, o4]
    refine ⟨E3.step he, ?_⟩
    rw [hsel]
    exact hvs.toSl (fun _ hf => hf.elim) (fun b hb => by have := E3.1; omega)
  · simp only [core, WB_cond_s, put, ldL, WB_label, List.nil_append, List.drop_zero, List.take_zero, Nat.reduceAdd, Nat.reduceSub, Nat.reduceMul, Nat.reduceLT, Nat.reduceEqDiff, reduceCtorEq, Nat.reduceLeDiff, Int.reduceLE, Int.reduceLT, Int.reduceToNat]
    exact ⟨_, _, P4, OwnL.nil, OwnL.nil, Disj.nil_l, e4, rfl⟩
end Go.Proofs.Ytkgbeihcepociaa.Ex
end

section
/- Who holds a group: both sides. -/
set_option linter.unusedSimpArgs false
set_option linter.unusedVariables false
set_option maxRecDepth 10000
set_option maxHeartbeats 4000000
namespace Go.Proofs.Ytkgbeihcepociaa.Ex
open Go

def hashPg (pool seed : Int) : Int := hash2F (IntKind.u32.wrap seed) (IntKind.u32.wrap pool)
def actF (m : MapD) (pool seed : Int) : List Int := match poolF m pool with
  | none => []
  | some p => if seed < 0 ∨ p.pgs ≤ seed ∨ 8 ≤ seed then [] else selectF m (hashPg pool seed) p.size
def pgV (pool seed : Int) : AV := .agg [.lit (.int .i64 pool), .lit (.int .i64 seed)]

theorem actF_able {m : MapD} {pool seed : Int} : ∀ o ∈ actF m pool seed, ableF m o = true := by
  unfold actF
  split
  · exact fun o ho => by cases ho
  · split
    · exact fun o ho => by cases ho
    · exact selectF_able
theorem actF_len {m : MapD} {pool seed : Int} : (actF m pool seed).length ≤ 8 := by
  unfold actF
  split
  · exact Nat.zero_le _
  · split
    · exact Nat.zero_le _
    · exact selectF_len

theorem actR_x {F : Nat → Prop} {H : AH} {m : MapD} {vo vp vb : AV} (pool seed : Int) (hm : MpAt F H m vo vp vb) (hok : OkM m) (hlo : Sm 40 m.osds) (hpo : Sm 32 m.pools) :
    WC Try.prog (tabOf Try.prog NT0) S0 50 [mpV m vo vp vb, pgV pool seed] H fun v h' => Ext H.n H h' ∧ IsSl RInt (fun b => H.n ≤ b) h' v (actF m pool seed) := by
  refine WC_fn Try.func50 rfl rfl ?_
  have o1 := hm.o.one
  have o2 := hm.p.one
  have o3 := hm.b.one
  have i1 := hm.o.isSl
  have i2 := hm.p.isSl
  have i3 := hm.b.isSl
  simp only [core, WB_cond_s, put, ldL, WB_label, List.nil_append, List.drop_zero, List.take_zero, Nat.reduceAdd, Nat.reduceSub, Nat.reduceMul, Nat.reduceLT, Nat.reduceEqDiff, reduceCtorEq, Nat.reduceLeDiff, Int.reduceLE, Int.reduceLT, Int.reduceToNat, Try.ntmps50, mpV, pgV, o1, o2, o3]
  obtain ⟨h1, hh1⟩ : ∃ h1, h1 = (H.push (.cells [.lit (.int .i64 m.epoch), vo, vp, vb, .lit (.int .i64 m.leaf)] 31)).push (.cells [.lit (.int .i64 pool), .lit (.int .i64 seed)] 56) := ⟨_, rfl⟩
  have E1 : Ext H.n H h1 := hh1 ▸ ((Ext.refl _ _).push _ (Nat.le_refl _)).push _ (by rw [n_push]; omega)
  have A1 : h1.at H.n = some (.cells [.lit (.int .i64 m.epoch), vo, vp, vb, .lit (.int .i64 m.leaf)] 31) := hh1 ▸ (at_push_lt _ (by rw [n_push]; omega)).trans (at_push_n _ _)
  have B1 : h1.at (H.n + 1) = some (.cells [.lit (.int .i64 pool), .lit (.int .i64 seed)] 56) := hh1 ▸ at_push_n _ _
  have la1 := at_lt A1
  have lb1 := at_lt B1
  have LA1 := ld_at (T := tabOf Try.prog NT0) A1
  have LB1 := ld_at (T := tabOf Try.prog NT0) B1
  rw [← hh1]
  clear hh1
  refine (poolR_x pool (hm.ext E1 (Nat.le_refl _)) hpo).mono ?_
  rintro _ h2 ⟨e2, rfl⟩
  have E2 := E1.step e2
  have A2 := (e2.2 _ la1).trans A1
  have B2 := (e2.2 _ lb1).trans B1
  simp only [core, WB_cond_s, put, ldL, WB_label, List.nil_append, List.drop_zero, List.take_zero, Nat.reduceAdd, Nat.reduceSub, Nat.reduceMul, Nat.reduceLT, Nat.reduceEqDiff, reduceCtorEq, Nat.reduceLeDiff, Int.reduceLE, Int.reduceLT, Int.reduceToNat, poolV]
  obtain ⟨h3, hh3⟩ : ∃ h3, h3 = h2.push (.cells [.lit (.int .i64 (poolG m pool).id), .lit (.int .i64 (poolG m pool).size), .lit (.int .i64 (poolG m pool).min), .lit (.int .i64 (poolG m pool).pgs)] 94) := ⟨_, rfl⟩
  have e3 : Ext h2.n h2 h3 := hh3 ▸ (Ext.refl _ _).push _ (Nat.le_refl _)
  have C3 : h3.at h2.n = some (.cells [.lit (.int .i64 (poolG m pool).id), .lit (.int .i64 (poolG m pool).size), .lit (.int .i64 (poolG m pool).min), .lit (.int .i64 (poolG m pool).pgs)] 94) := hh3 ▸ at_push_n _ _
  have E3 := E2.step e3
  have A3 := (e3.2 _ (at_lt A2)).trans A2
  have B3 := (e3.2 _ (at_lt B2)).trans B2
  have la3 := at_lt A3
  have lb3 := at_lt B3
  have lc3 := at_lt C3
  have LA3 := ld_at (T := tabOf Try.prog NT0) A3
  have LB3 := ld_at (T := tabOf Try.prog NT0) B3
  have LC3 := ld_at (T := tabOf Try.prog NT0) C3
  rw [← hh3]
  clear hh3
  by_cases hq : poolF m pool = none
  · simp only [core, WB_cond_s, put, ldL, WB_label, List.nil_append, List.drop_zero, List.take_zero, Nat.reduceAdd, Nat.reduceSub, Nat.reduceMul, Nat.reduceLT, Nat.reduceEqDiff, reduceCtorEq, Nat.reduceLeDiff, Int.reduceLE, Int.reduceLT, Int.reduceToNat, hq, Option.isSome_none]
    refine ⟨E3, ?_⟩
    unfold actF
    rw [hq]
    exact IsSl.nil
  obtain ⟨pl, hq⟩ := Option.ne_none_iff_exists'.1 hq
  have hG : poolG m pool = pl := by unfold poolG; rw [hq]; rfl
  rw [hG] at LC3
  have hbad : (seed < 0 ∨ pl.pgs ≤ seed ∨ 8 ≤ seed) → ∀ h', Ext H.n H h' → Ext H.n H h' ∧ IsSl RInt (fun b => H.n ≤ b) h' (.lit (.slice none 0 0)) (actF m pool seed) := fun hc h' e => by
    refine ⟨e, ?_⟩
    unfold actF
    rw [hq]
    simp only [if_pos hc]
    exact IsSl.nil
  by_cases c1 : seed < 0
  · simp only [core, WB_cond_s, put, ldL, WB_label, List.nil_append, List.drop_zero, List.take_zero, Nat.reduceAdd, Nat.reduceSub, Nat.reduceMul, Nat.reduceLT, Nat.reduceEqDiff, reduceCtorEq, Nat.reduceLeDiff, Int.reduceLE, Int.reduceLT, Int.reduceToNat, hq, Option.isSome_some, LB3, lb3, c1]
    exact hbad (.inl c1) _ E3
  by_cases c2 : pl.pgs ≤ seed
  · simp only [core, WB_cond_s, put, ldL, WB_label, List.nil_append, List.drop_zero, List.take_zero, Nat.reduceAdd, Nat.reduceSub, Nat.reduceMul, Nat.reduceLT, Nat.reduceEqDiff, reduceCtorEq, Nat.reduceLeDiff, Int.reduceLE, Int.reduceLT, Int.reduceToNat, hq, Option.isSome_some, LB3, lb3, LC3, lc3, c1, c2]
    exact hbad (.inr (.inl c2)) _ E3
  by_cases c3 : 8 ≤ seed
  · simp only [core, WB_cond_s, put, ldL, WB_label, List.nil_append, List.drop_zero, List.take_zero, Nat.reduceAdd, Nat.reduceSub, Nat.reduceMul, Nat.reduceLT, Nat.reduceEqDiff, reduceCtorEq, Nat.reduceLeDiff, Int.reduceLE, Int.reduceLT, Int.reduceToNat, hq, Option.isSome_some, LB3, lb3, LC3, lc3, c1, c2, c3]
    exact hbad (.inr (.inr c3)) _ E3
  have hact : actF m pool seed = selectF m (hashPg pool seed) pl.size := by
    unfold actF
    rw [hq]
    simp only [if_neg (show ¬ (seed < 0 ∨ pl.pgs ≤ seed ∨ 8 ≤ seed) by omega)]
  simp only [core, WB_cond_s, put, ldL, WB_label, List.nil_append, List.drop_zero, List.take_zero, Nat.reduceAdd, Nat.reduceSub, Nat.reduceMul, Nat.reduceLT, Nat.reduceEqDiff, reduceCtorEq, Nat.reduceLeDiff, Int.reduceLE, Int.reduceLT, Int.reduceToNat, hq, Option.isSome_some, LB3, lb3, LC3, lc3, c1, c2, c3]
  rw [WB_regionD [0, 1, 2, 3, 4, 5, 6, 8, 9, 7, 10, 11] 11146287964711016698268812174730525759504384 (by kernel_rfl)]
  repeat ((with_reducible refine WDM_cons ?_; simp only [List.getElem?_toArray, List.getElem?_cons_zero, List.getElem?_cons_succ, WRegDO, kindOf]; try simp only [dropR_nil, dropR_cons, List.size_toArray, List.length_cons, List.length_nil, Nat.reduceAdd, waits_eq, Nat.reduceMul, Nat.zero_add, Nat.reduceShiftRight, Nat.reduceMod, Nat.reduceEqDiff, Nat.zero_ne_one, decide_true, decide_false, cond_true, cond_false]); simp only [core, WB_cond_s, put, ldL, WB_label, List.nil_append, List.drop_zero, List.take_zero, Nat.reduceAdd, Nat.reduceSub, Nat.reduceMul, Nat.reduceLT, Nat.reduceEqDiff, reduceCtorEq, Nat.reduceLeDiff, Int.reduceLE, Int.reduceLT, Int.reduceToNat, cored, LA3, la3, LB3, lb3, LC3, lc3, i1, i2, i3])
  refine hash2R_c ?_
  repeat ((with_reducible refine WDM_cons ?_; simp only [List.getElem?_toArray, List.getElem?_cons_zero, List.getElem?_cons_succ, WRegDO, kindOf]; try simp only [dropR_nil, dropR_cons, List.size_toArray, List.length_cons, List.length_nil, Nat.reduceAdd, waits_eq, Nat.reduceMul, Nat.zero_add, Nat.reduceShiftRight, Nat.reduceMod, Nat.reduceEqDiff, Nat.zero_ne_one, decide_true, decide_false, cond_true, cond_false]); simp only [core, WB_cond_s, put, ldL, WB_label, List.nil_append, List.drop_zero, List.take_zero, Nat.reduceAdd, Nat.reduceSub, Nat.reduceMul, Nat.reduceLT, Nat.reduceEqDiff, reduceCtorEq, Nat.reduceLeDiff, Int.reduceLE, Int.reduceLT, Int.reduceToNat, cored, LA3, la3, LB3, lb3, LC3, lc3, i1, i2, i3])
  refine (selectR_x _ _ (hm.ext E3 (Nat.le_refl _)) hok hlo).mono ?_
  rintro v h4 ⟨e4, hv⟩
  have v1 := hv.isSl
  repeat ((with_reducible refine WDM_cons ?_; simp only [List.getElem?_toArray, List.getElem?_cons_zero, List.getElem?_cons_succ, WRegDO, kindOf]; try simp only [dropR_nil, dropR_cons, List.size_toArray, List.length_cons, List.length_nil, Nat.reduceAdd, waits_eq, Nat.reduceMul, Nat.zero_add, Nat.reduceShiftRight, Nat.reduceMod, Nat.reduceEqDiff, Nat.zero_ne_one, decide_true, decide_false, cond_true, cond_false]); simp only [core, WB_cond_s, put, ldL, WB_label, List.nil_append, List.drop_zero, List.take_zero, Nat.reduceAdd, Nat.reduceSub, Nat.reduceMul, Nat.reduceLT, Nat.reduceEqDiff, reduceCtorEq, Nat.reduceLeDiff, Int.reduceLE, Int.reduceLT, Int.reduceToNat, cored, v1, i1, i2, i3])
  refine ⟨E3.step e4, ?_⟩
  rw [hact]
  exact hv.lift fun b hb _ => ⟨rfl, Nat.le_trans E3.1 hb⟩
theorem act_x {F : Nat → Prop} {H : AH} {m : MapD} {vo vp vb : AV} (pool seed : Int) (hm : MpAt F H m vo vp vb) (hok : OkM m) (hlo : Sm 40 m.osds) (hpo : Sm 32 m.pools) :
    WC Try.prog (tabOf Try.prog NT0) S0 45 [mpV m vo vp vb, pgV pool seed] H fun v h' => Ext H.n H h' ∧ IsSl RInt (fun b => H.n ≤ b) h' v (actF m pool seed) := by
  refine WC_fn Try.func45 rfl rfl ?_
  have o1 := hm.o.one
  have o2 := hm.p.one
  have o3 := hm.b.one
  have i1 := hm.o.isSl
  have i2 := hm.p.isSl
  have i3 := hm.b.isSl
  simp only [core, WB_cond_s, put, ldL, WB_label, List.nil_append, List.drop_zero, List.take_zero, Nat.reduceAdd, Nat.reduceSub, Nat.reduceMul, Nat.reduceLT, Nat.reduceEqDiff, reduceCtorEq, Nat.reduceLeDiff, Int.reduceLE, Int.reduceLT, Int.reduceToNat, Try.ntmps45, mpV, pgV, o1, o2, o3]
  obtain ⟨h1, hh1⟩ : ∃ h1, h1 = (H.push (.cells [.lit (.int .i64 m.epoch), vo, vp, vb, .lit (.int .i64 m.leaf)] 31)).push (.cells [.lit (.int .i64 pool), .lit (.int .i64 seed)] 56) := ⟨_, rfl⟩
  have E1 : Ext H.n H h1 := hh1 ▸ ((Ext.refl _ _).push _ (Nat.le_refl _)).push _ (by rw [n_push]; omega)
  have A1 : h1.at H.n = some (.cells [.lit (.int .i64 m.epoch), vo, vp, vb, .lit (.int .i64 m.leaf)] 31) := hh1 ▸ (at_push_lt _ (by rw [n_push]; omega)).trans (at_push_n _ _)
  have B1 : h1.at (H.n + 1) = some (.cells [.lit (.int .i64 pool), .lit (.int .i64 seed)] 56) := hh1 ▸ at_push_n _ _
  have la1 := at_lt A1
  have lb1 := at_lt B1
  have LA1 := ld_at (T := tabOf Try.prog NT0) A1
  have LB1 := ld_at (T := tabOf Try.prog NT0) B1
  rw [← hh1]
  clear hh1
  refine (pool_x pool (hm.ext E1 (Nat.le_refl _)) hpo).mono ?_
  rintro _ h2 ⟨e2, rfl⟩
  have E2 := E1.step e2
  have A2 := (e2.2 _ la1).trans A1
  have B2 := (e2.2 _ lb1).trans B1
  simp only [core, WB_cond_s, put, ldL, WB_label, List.nil_append, List.drop_zero, List.take_zero, Nat.reduceAdd, Nat.reduceSub, Nat.reduceMul, Nat.reduceLT, Nat.reduceEqDiff, reduceCtorEq, Nat.reduceLeDiff, Int.reduceLE, Int.reduceLT, Int.reduceToNat, poolV]
  obtain ⟨h3, hh3⟩ : ∃ h3, h3 = h2.push (.cells [.lit (.int .i64 (poolG m pool).id), .lit (.int .i64 (poolG m pool).size), .lit (.int .i64 (poolG m pool).min), .lit (.int .i64 (poolG m pool).pgs)] 94) := ⟨_, rfl⟩
  have e3 : Ext h2.n h2 h3 := hh3 ▸ (Ext.refl _ _).push _ (Nat.le_refl _)
  have C3 : h3.at h2.n = some (.cells [.lit (.int .i64 (poolG m pool).id), .lit (.int .i64 (poolG m pool).size), .lit (.int .i64 (poolG m pool).min), .lit (.int .i64 (poolG m pool).pgs)] 94) := hh3 ▸ at_push_n _ _
  have E3 := E2.step e3
  have A3 := (e3.2 _ (at_lt A2)).trans A2
  have B3 := (e3.2 _ (at_lt B2)).trans B2
  have la3 := at_lt A3
  have lb3 := at_lt B3
  have lc3 := at_lt C3
  have LA3 := ld_at (T := tabOf Try.prog NT0) A3
  have LB3 := ld_at (T := tabOf Try.prog NT0) B3
  have LC3 := ld_at (T := tabOf Try.prog NT0) C3
  rw [← hh3]
  clear hh3
  by_cases hq : poolF m pool = none
  · simp only [core, WB_cond_s, put, ldL, WB_label, List.nil_append, List.drop_zero, List.take_zero, Nat.reduceAdd, Nat.reduceSub, Nat.reduceMul, Nat.reduceLT, Nat.reduceEqDiff, reduceCtorEq, Nat.reduceLeDiff, Int.reduceLE, Int.reduceLT, Int.reduceToNat, hq, Option.isSome_none]
    refine ⟨E3, ?_⟩
    unfold actF
    rw [hq]
    exact IsSl.nil
  obtain ⟨pl, hq⟩ := Option.ne_none_iff_exists'.1 hq
  have hG : poolG m pool = pl := by unfold poolG; rw [hq]; rfl
  rw [hG] at LC3
  have hbad : (seed < 0 ∨ pl.pgs ≤ seed ∨ 8 ≤ seed) → ∀ h', Ext H.n H h' → Ext H.n H h' ∧ IsSl RInt (fun b => H.n ≤ b) h' (.lit (.slice none 0 0)) (actF m pool seed) := fun hc h' e => by
    refine ⟨e, ?_⟩
    unfold actF
    rw [hq]
    simp only [if_pos hc]
    exact IsSl.nil
  by_cases c1 : seed < 0
  · simp only [core, WB_cond_s, put, ldL, WB_label, List.nil_append, List.drop_zero, List.take_zero, Nat.reduceAdd, Nat.reduceSub, Nat.reduceMul, Nat.reduceLT, Nat.reduceEqDiff, reduceCtorEq, Nat.reduceLeDiff, Int.reduceLE, Int.reduceLT, Int.reduceToNat, hq, Option.isSome_some, LB3, lb3, c1]
    exact hbad (.inl c1) _ E3
  by_cases c2 : pl.pgs ≤ seed
  · by_cases c4 : 8 < pl.pgs
    · have c5 : 8 ≤ seed := by omega
      simp only [core, WB_cond_s, put, ldL, WB_label, List.nil_append, List.drop_zero, List.take_zero, Nat.reduceAdd, Nat.reduceSub, Nat.reduceMul, Nat.reduceLT, Nat.reduceEqDiff, reduceCtorEq, Nat.reduceLeDiff, Int.reduceLE, Int.reduceLT, Int.reduceToNat, hq, Option.isSome_some, LB3, lb3, LC3, lc3, c1, c4, c5]
      exact hbad (.inr (.inl c2)) _ E3
    · simp only [core, WB_cond_s, put, ldL, WB_label, List.nil_append, List.drop_zero, List.take_zero, Nat.reduceAdd, Nat.reduceSub, Nat.reduceMul, Nat.reduceLT, Nat.reduceEqDiff, reduceCtorEq, Nat.reduceLeDiff, Int.reduceLE, Int.reduceLT, Int.reduceToNat, hq, Option.isSome_some, LB3, lb3, LC3, lc3, c1, c2, c4]
      exact hbad (.inr (.inl c2)) _ E3
  by_cases c3 : 8 ≤ seed
  · have c4 : 8 < pl.pgs := by omega
    simp only [core, WB_cond_s, put, ldL, WB_label, List.nil_append, List.drop_zero, List.take_zero, Nat.reduceAdd, Nat.reduceSub, Nat.reduceMul, Nat.reduceLT, Nat.reduceEqDiff, reduceCtorEq, Nat.reduceLeDiff, Int.reduceLE, Int.reduceLT, Int.reduceToNat, hq, Option.isSome_some, LB3, lb3, LC3, lc3, c1, c4, c3]
    exact hbad (.inr (.inr c3)) _ E3
  have hact : actF m pool seed = selectF m (hashPg pool seed) pl.size := by
    unfold actF
    rw [hq]
    simp only [if_neg (show ¬ (seed < 0 ∨ pl.pgs ≤ seed ∨ 8 ≤ seed) by omega)]
  have c4 : ((if 8 < pl.pgs then 8 else pl.pgs) ≤ seed) = False := by
    simp only [eq_iff_iff, iff_false]
    split <;> omega
  simp only [core, WB_cond_s, put, ldL, WB_label, List.nil_append, List.drop_zero, List.take_zero, Nat.reduceAdd, Nat.reduceSub, Nat.reduceMul, Nat.reduceLT, Nat.reduceEqDiff, reduceCtorEq, Nat.reduceLeDiff, Int.reduceLE, Int.reduceLT, Int.reduceToNat, hq, Option.isSome_some, LB3, lb3, LC3, lc3, c1, c4]
  rw [WB_regionD [0, 2, 3, 4, 5, 6, 7, 9, 10, 13, 1, 8, 11, 12] 1532168142376787500481165071645569925414942425950978048 (by kernel_rfl)]
  repeat ((with_reducible refine WDM_cons ?_; simp only [List.getElem?_toArray, List.getElem?_cons_zero, List.getElem?_cons_succ, WRegDO, kindOf]; try simp only [dropR_nil, dropR_cons, List.size_toArray, List.length_cons, List.length_nil, Nat.reduceAdd, waits_eq, Nat.reduceMul, Nat.zero_add, Nat.reduceShiftRight, Nat.reduceMod, Nat.reduceEqDiff, Nat.zero_ne_one, decide_true, decide_false, cond_true, cond_false]); simp only [core, WB_cond_s, put, ldL, WB_label, List.nil_append, List.drop_zero, List.take_zero, Nat.reduceAdd, Nat.reduceSub, Nat.reduceMul, Nat.reduceLT, Nat.reduceEqDiff, reduceCtorEq, Nat.reduceLeDiff, Int.reduceLE, Int.reduceLT, Int.reduceToNat, cored, LA3, la3, LB3, lb3, LC3, lc3, i1, i2, i3])
  refine new_x.mono ?_
  rintro _ h4 ⟨q, rfl, e4⟩
  have E4 := E3.step e4
  have A4 := (e4.2 _ la3).trans A3
  have B4 := (e4.2 _ lb3).trans B3
  have C4 := (e4.2 _ lc3).trans C3
  rw [hG] at C4
  have la4 := at_lt A4
  have lb4 := at_lt B4
  have lc4 := at_lt C4
  have LA4 := ld_at (T := tabOf Try.prog NT0) A4
  have LB4 := ld_at (T := tabOf Try.prog NT0) B4
  have LC4 := ld_at (T := tabOf Try.prog NT0) C4
  repeat ((with_reducible refine WDM_cons ?_; simp only [List.getElem?_toArray, List.getElem?_cons_zero, List.getElem?_cons_succ, WRegDO, kindOf]; try simp only [dropR_nil, dropR_cons, List.size_toArray, List.length_cons, List.length_nil, Nat.reduceAdd, waits_eq, Nat.reduceMul, Nat.zero_add, Nat.reduceShiftRight, Nat.reduceMod, Nat.reduceEqDiff, Nat.zero_ne_one, decide_true, decide_false, cond_true, cond_false]); simp only [core, WB_cond_s, put, ldL, WB_label, List.nil_append, List.drop_zero, List.take_zero, Nat.reduceAdd, Nat.reduceSub, Nat.reduceMul, Nat.reduceLT, Nat.reduceEqDiff, reduceCtorEq, Nat.reduceLeDiff, Int.reduceLE, Int.reduceLT, Int.reduceToNat, cored, LA4, la4, LB4, lb4, LC4, lc4, i1, i2, i3])
  refine hash2_c ?_
  repeat ((with_reducible refine WDM_cons ?_; simp only [List.getElem?_toArray, List.getElem?_cons_zero, List.getElem?_cons_succ, WRegDO, kindOf]; try simp only [dropR_nil, dropR_cons, List.size_toArray, List.length_cons, List.length_nil, Nat.reduceAdd, waits_eq, Nat.reduceMul, Nat.zero_add, Nat.reduceShiftRight, Nat.reduceMod, Nat.reduceEqDiff, Nat.zero_ne_one, decide_true, decide_false, cond_true, cond_false]); simp only [core, WB_cond_s, put, ldL, WB_label, List.nil_append, List.drop_zero, List.take_zero, Nat.reduceAdd, Nat.reduceSub, Nat.reduceMul, Nat.reduceLT, Nat.reduceEqDiff, reduceCtorEq, Nat.reduceLeDiff, Int.reduceLE, Int.reduceLT, Int.reduceToNat, cored, LA4, la4, LB4, lb4, LC4, lc4, i1, i2, i3])
  refine (selectC_x _ _ (hm.ext E4 (Nat.le_refl _)) hok hlo).mono ?_
  rintro v h5 ⟨e5, hv⟩
  have E5 := E4.step e5
  have A5 := (e5.2 _ la4).trans A4
  have la5 := at_lt A5
  have v1 := hv.isSl
  have v2 := hv.lenD
  rw [show hash2F (IntKind.u32.wrap seed) (IntKind.u32.wrap pool) = hashPg pool seed from rfl, ← hact] at hv v2
  repeat ((with_reducible refine WDM_cons ?_; simp only [List.getElem?_toArray, List.getElem?_cons_zero, List.getElem?_cons_succ, WRegDO, kindOf]; try simp only [dropR_nil, dropR_cons, List.size_toArray, List.length_cons, List.length_nil, Nat.reduceAdd, waits_eq, Nat.reduceMul, Nat.zero_add, Nat.reduceShiftRight, Nat.reduceMod, Nat.reduceEqDiff, Nat.zero_ne_one, decide_true, decide_false, cond_true, cond_false]); simp only [core, WB_cond_s, put, ldL, WB_label, List.nil_append, List.drop_zero, List.take_zero, Nat.reduceAdd, Nat.reduceSub, Nat.reduceMul, Nat.reduceLT, Nat.reduceEqDiff, reduceCtorEq, Nat.reduceLeDiff, Int.reduceLE, Int.reduceLT, Int.reduceToNat, cored, v1, v2, i1, i2, i3])
  have hlen := actF_len (m := m) (pool := pool) (seed := seed)
  refine WB_for (actF m pool seed).length (fun i t h => ∃ o, OwnL RInt (fun _ => False) h5.n h o 3 ((actF m pool seed).take i) ∧ Ext h5.n h5 h ∧ t.n = 58 ∧ t.get 2 = .ptr H.n 0 ∧ t.get 7 = o ∧ t.get 43 = v ∧ t.get 44 = .lit (.int .i64 (actF m pool seed).length) ∧ t.get 45 = .lit (.int .i64 i)) ?_ ?_ _ _ ?_
  · rintro i t h hlt hc ⟨o, ho, he, hn, g2, g7, g43, g44, g45⟩ ih
    have E6 := E5.step he
    have A6 := (he.2 _ la5).trans A5
    have la6 := at_lt A6
    have LA6 := ld_at (T := tabOf Try.prog NT0) A6
    have hws := wrap_succ hlt (by omega)
    have hld := (hv.ext he (Nat.le_refl _)).int (T := tabOf Try.prog NT0) (e := 3) (by kernel_rfl) (by kernel_rfl) hlt
    have hel := getD_some' (0 : Int) hlt
    have hab := actF_able ((actF m pool seed).getD i 0) (List.mem_of_getElem? hel)
    have I1 := hv.i64 i hlt
    simp only [core, WB_cond_s, put, ldL, WB_label, List.nil_append, List.drop_zero, List.take_zero, Nat.reduceAdd, Nat.reduceSub, Nat.reduceMul, Nat.reduceLT, Nat.reduceEqDiff, reduceCtorEq, Nat.reduceLeDiff, Int.reduceLE, Int.reduceLT, Int.reduceToNat, hn, g2, g7, g43, g44, g45, hc, hlt, hld, LA6, la6, v1, v2]
    refine (able_x _ (hm.ext E6 (Nat.le_refl _)) hlo).mono ?_
    rintro _ h7 ⟨e7, rfl⟩
    have he7 := he.step e7
    have ho7 := ho.ext e7 (Nat.le_refl _)
    simp only [core, WB_cond_s, put, ldL, WB_label, List.nil_append, List.drop_zero, List.take_zero, Nat.reduceAdd, Nat.reduceSub, Nat.reduceMul, Nat.reduceLT, Nat.reduceEqDiff, reduceCtorEq, Nat.reduceLeDiff, Int.reduceLE, Int.reduceLT, Int.reduceToNat, hn, g2, g7, g43, g44, g45, hab]
    obtain ⟨h8, hh8⟩ : ∃ h8, h8 = h7.push (.cells [.lit (.int .i64 ((actF m pool seed).getD i 0))] 3) := ⟨_, rfl⟩
    have e8 : Ext h7.n h7 h8 := hh8 ▸ (Ext.refl _ _).push _ (Nat.le_refl _)
    have A8 : h8.at h7.n = some (.cells [.lit (.int .i64 ((actF m pool seed).getD i 0))] 3) := hh8 ▸ at_push_n h7 _
    have q7 := he7.1
    have q8 := e8.1
    rw [← hh8]
    have htl : ((actF m pool seed).take i).length = i := by rw [List.length_take]; omega
    refine WOp_app ((ho7.ext e8 (Nat.le_refl _)).snoc (by kernel_rfl) (by kernel_rfl) (by kernel_rfl) (zv := .lit (.int .i64 0)) (by kernel_rfl) (by' := 8) (by kernel_rfl) rfl (by decide) (by decide) A8 (y := (actF m pool seed).getD i 0) ⟨rfl, I1⟩ (by omega) (by omega) (by omega)) ?_
    rintro s9 h9 ⟨ho9, e9, k9⟩
    have t9 := ho9.one
    simp only [core, WB_cond_s, put, ldL, WB_label, List.nil_append, List.drop_zero, List.take_zero, Nat.reduceAdd, Nat.reduceSub, Nat.reduceMul, Nat.reduceLT, Nat.reduceEqDiff, reduceCtorEq, Nat.reduceLeDiff, Int.reduceLE, Int.reduceLT, Int.reduceToNat, hn, g2, g7, g43, g44, g45, t9, hws]
    refine ih _ _ ⟨s9, ?_, (he7.step e8).trans e9, ?_⟩
    · rw [List.take_add_one, hel]
      exact ho9
    · simp only [core, WB_cond_s, put, ldL, WB_label, List.nil_append, List.drop_zero, List.take_zero, Nat.reduceAdd, Nat.reduceSub, Nat.reduceMul, Nat.reduceLT, Nat.reduceEqDiff, reduceCtorEq, Nat.reduceLeDiff, Int.reduceLE, Int.reduceLT, Int.reduceToNat, hn, g2, g7, g43, g44, g45]
  · rintro t h hc ⟨o, ho, he, hn, g2, g7, g43, g44, g45⟩
    have t9 := ho.one
    rw [List.take_length] at ho
    simp only [core, WB_cond_s, put, ldL, WB_label, List.nil_append, List.drop_zero, List.take_zero, Nat.reduceAdd, Nat.reduceSub, Nat.reduceMul, Nat.reduceLT, Nat.reduceEqDiff, reduceCtorEq, Nat.reduceLeDiff, Int.reduceLE, Int.reduceLT, Int.reduceToNat, hn, g2, g7, g43, g44, g45, hc, t9]
    refine ⟨E5.step he, ?_⟩
    exact ho.toSl (fun _ hf => hf.elim) (fun b hb => by have := E5.1; omega)
  · simp only [core, WB_cond_s, put, ldL, WB_label, List.nil_append, List.drop_zero, List.take_zero, Nat.reduceAdd, Nat.reduceSub, Nat.reduceMul, Nat.reduceLT, Nat.reduceEqDiff, reduceCtorEq, Nat.reduceLeDiff, Int.reduceLE, Int.reduceLT, Int.reduceToNat]
    exact ⟨_, OwnL.nil, Ext.refl _ _, rfl, rfl⟩
end Go.Proofs.Ytkgbeihcepociaa.Ex
end

section
/- Boots, Same: both sides. -/
set_option linter.unusedSimpArgs false
set_option linter.unusedVariables false
set_option maxRecDepth 10000
set_option maxHeartbeats 4000000
namespace Go.Proofs.Ytkgbeihcepociaa.Ex
open Go
def bootO (m : MapD) (o : Int) : Int := match m.osds[o.toNat]? with
  | some y => y.boot
  | none => 0
def bootF (m : MapD) (l : List Int) : List Int := l.map (bootO m)
theorem able_inv {m : MapD} {o : Int} (h : ableF m o = true) : ∃ (k : Nat) (y : OsdD), o = (k : Int) ∧ m.osds[k]? = some y := by
  unfold ableF at h
  split at h
  · rename_i h0
    split at h
    · rename_i y hy
      exact ⟨_, y, (Int.toNat_of_nonneg h0).symm, hy⟩
    · cases h
  · cases h

theorem bootsR_x {F : Nat → Prop} {H : AH} {m : MapD} {vo vp vb : AV} (pool seed : Int) (hm : MpAt F H m vo vp vb) (hok : OkM m) (hlo : Sm 40 m.osds) (hpo : Sm 32 m.pools) :
    WC Try.prog (tabOf Try.prog NT0) S0 52 [mpV m vo vp vb, pgV pool seed] H fun v h' => Ext H.n H h' ∧ IsSl RInt (fun b => H.n ≤ b) h' v (bootF m (actF m pool seed)) := by
  refine WC_fn Try.func52 rfl rfl ?_
  have o1 := hm.o.one
  have o2 := hm.p.one
  have o3 := hm.b.one
  have w1 := hm.o.isSl
  have w2 := hm.o.lenD
  simp only [core, WB_cond_s, put, ldL, WB_label, List.nil_append, List.drop_zero, List.take_zero, Nat.reduceAdd, Nat.reduceSub, Nat.reduceMul, Nat.reduceLT, Nat.reduceEqDiff, reduceCtorEq, Nat.reduceLeDiff, Int.reduceLE, Int.reduceLT, Int.reduceToNat, Try.ntmps52, mpV, pgV, o1, o2, o3]
  obtain ⟨h1, hh1⟩ : ∃ h1, h1 = (H.push (.cells [.lit (.int .i64 m.epoch), vo, vp, vb, .lit (.int .i64 m.leaf)] 31)).push (.cells [.lit (.int .i64 pool), .lit (.int .i64 seed)] 56) := ⟨_, rfl⟩
  have E1 : Ext H.n H h1 := hh1 ▸ ((Ext.refl _ _).push _ (Nat.le_refl _)).push _ (by rw [n_push]; omega)
  have A1 : h1.at H.n = some (.cells [.lit (.int .i64 m.epoch), vo, vp, vb, .lit (.int .i64 m.leaf)] 31) := hh1 ▸ (at_push_lt _ (by rw [n_push]; omega)).trans (at_push_n _ _)
  have B1 : h1.at (H.n + 1) = some (.cells [.lit (.int .i64 pool), .lit (.int .i64 seed)] 56) := hh1 ▸ at_push_n _ _
  have la1 := at_lt A1
  have lb1 := at_lt B1
  have LA1 := ld_at (T := tabOf Try.prog NT0) A1
  have LB1 := ld_at (T := tabOf Try.prog NT0) B1
  rw [← hh1]
  clear hh1
  refine (actR_x pool seed (hm.ext E1 (Nat.le_refl _)) hok hlo hpo).mono ?_
  rintro v h2 ⟨e2, hv⟩
  have E2 := E1.step e2
  have A2 := (e2.2 _ la1).trans A1
  have la2 := at_lt A2
  have v1 := hv.isSl
  have v2 := hv.lenD
  have hlen := actF_len (m := m) (pool := pool) (seed := seed)
  simp only [core, WB_cond_s, put, ldL, WB_label, List.nil_append, List.drop_zero, List.take_zero, Nat.reduceAdd, Nat.reduceSub, Nat.reduceMul, Nat.reduceLT, Nat.reduceEqDiff, reduceCtorEq, Nat.reduceLeDiff, Int.reduceLE, Int.reduceLT, Int.reduceToNat, v1, v2]
  refine WB_for (actF m pool seed).length (fun i t h => ∃ o, OwnL RInt (fun _ => False) h2.n h o 3 (bootF m ((actF m pool seed).take i)) ∧ Ext h2.n h2 h ∧ t.n = 27 ∧ t.get 2 = .ptr H.n 0 ∧ t.get 5 = o ∧ t.get 10 = v ∧ t.get 11 = .lit (.int .i64 (actF m pool seed).length) ∧ t.get 12 = .lit (.int .i64 i)) ?_ ?_ _ _ ?_
  · rintro i t h hlt hc ⟨o, ho, he, hn, g2, g5, g10, g11, g12⟩ ih
    have E3 := E2.step he
    have A3 := (he.2 _ la2).trans A2
    have la3 := at_lt A3
    have LA3 := ld_at (T := tabOf Try.prog NT0) A3
    have hws := wrap_succ hlt (by omega)
    have hld := (hv.ext he (Nat.le_refl _)).int (T := tabOf Try.prog NT0) (e := 3) (by kernel_rfl) (by kernel_rfl) hlt
    obtain ⟨k, y, hk, hky⟩ := able_inv (actF_able ((actF m pool seed).getD i 0) (List.mem_of_getElem? (getD_some' 0 hlt)))
    have hkl : k < m.osds.length := (List.getElem?_eq_some_iff.1 hky).1
    obtain ⟨c, hc1, hg⟩ := (hm.o.ext E3 (Nat.le_refl _)).get (T := tabOf Try.prog NT0) hky
    obtain ⟨rfl, -, I1, -⟩ := ROsd_is.1 hc1
    have hgb : loadA (tabOf Try.prog NT0) h 3 (slB vo) (slO vo + k * 6 + 3) = some (.lit (.int .i64 y.boot)) := (hg 3 1 3 (by kernel_rfl) (by omega) (by decide)).trans (by simp only [core, WB_cond_s, put, ldL, WB_label, List.nil_append, List.drop_zero, List.take_zero, Nat.reduceAdd, Nat.reduceSub, Nat.reduceMul, Nat.reduceLT, Nat.reduceEqDiff, reduceCtorEq, Nat.reduceLeDiff, Int.reduceLE, Int.reduceLT, Int.reduceToNat])
    rw [hk] at hld
    simp only [core, WB_cond_s, put, ldL, WB_label, List.nil_append, List.drop_zero, List.take_zero, Nat.reduceAdd, Nat.reduceSub, Nat.reduceMul, Nat.reduceLT, Nat.reduceEqDiff, reduceCtorEq, Nat.reduceLeDiff, Int.reduceLE, Int.reduceLT, Int.reduceToNat, hn, g2, g5, g10, g11, g12, hc, hlt, hld, LA3, la3, v1, v2, w1, w2, hkl, hgb]
    obtain ⟨h8, hh8⟩ : ∃ h8, h8 = h.push (.cells [.lit (.int .i64 y.boot)] 3) := ⟨_, rfl⟩
    have e8 : Ext h.n h h8 := hh8 ▸ (Ext.refl _ _).push _ (Nat.le_refl _)
    have A8 : h8.at h.n = some (.cells [.lit (.int .i64 y.boot)] 3) := hh8 ▸ at_push_n h _
    have q7 := he.1
    have q8 := e8.1
    rw [← hh8]
    have htl : (bootF m ((actF m pool seed).take i)).length = i := by unfold bootF; rw [List.length_map, List.length_take]; omega
    refine WOp_app ((ho.ext e8 (Nat.le_refl _)).snoc (by kernel_rfl) (by kernel_rfl) (by kernel_rfl) (zv := .lit (.int .i64 0)) (by kernel_rfl) (by' := 8) (by kernel_rfl) rfl (by decide) (by decide) A8 (y := y.boot) ⟨rfl, I1⟩ (by omega) (by omega) (by omega)) ?_
    rintro s9 h9 ⟨ho9, e9, k9⟩
    have t9 := ho9.one
    simp only [core, WB_cond_s, put, ldL, WB_label, List.nil_append, List.drop_zero, List.take_zero, Nat.reduceAdd, Nat.reduceSub, Nat.reduceMul, Nat.reduceLT, Nat.reduceEqDiff, reduceCtorEq, Nat.reduceLeDiff, Int.reduceLE, Int.reduceLT, Int.reduceToNat, hn, g2, g5, g10, g11, g12, t9, hws]
    refine ih _ _ ⟨s9, ?_, (he.step e8).trans e9, ?_⟩
    · have hel := getD_some' (0 : Int) hlt
      rw [List.take_add_one, hel, hk]
      unfold bootF at ho9 ⊢
      rw [List.map_append]
      have hb : bootO m (k : Int) = y.boot := by unfold bootO; rw [Int.toNat_natCast, hky]
      simp only [Option.toList_some, List.map_cons, List.map_nil, hb]
      exact ho9
    · simp only [core, WB_cond_s, put, ldL, WB_label, List.nil_append, List.drop_zero, List.take_zero, Nat.reduceAdd, Nat.reduceSub, Nat.reduceMul, Nat.reduceLT, Nat.reduceEqDiff, reduceCtorEq, Nat.reduceLeDiff, Int.reduceLE, Int.reduceLT, Int.reduceToNat, hn, g2, g5, g10, g11, g12]
  · rintro t h hc ⟨o, ho, he, hn, g2, g5, g10, g11, g12⟩
    have t9 := ho.one
    rw [List.take_length] at ho
    simp only [core, WB_cond_s, put, ldL, WB_label, List.nil_append, List.drop_zero, List.take_zero, Nat.reduceAdd, Nat.reduceSub, Nat.reduceMul, Nat.reduceLT, Nat.reduceEqDiff, reduceCtorEq, Nat.reduceLeDiff, Int.reduceLE, Int.reduceLT, Int.reduceToNat, hn, g2, g5, g10, g11, g12, hc, t9]
    refine ⟨E2.step he, ?_⟩
    exact ho.toSl (fun _ hf => hf.elim) (fun b hb => by have := E2.1; omega)
  · simp only [core, WB_cond_s, put, ldL, WB_label, List.nil_append, List.drop_zero, List.take_zero, Nat.reduceAdd, Nat.reduceSub, Nat.reduceMul, Nat.reduceLT, Nat.reduceEqDiff, reduceCtorEq, Nat.reduceLeDiff, Int.reduceLE, Int.reduceLT, Int.reduceToNat]
    exact ⟨_, OwnL.nil, Ext.refl _ _, rfl, rfl⟩

theorem boots_x {F : Nat → Prop} {H : AH} {m : MapD} {vo vp vb : AV} (pool seed : Int) (hm : MpAt F H m vo vp vb) (hok : OkM m) (hlo : Sm 40 m.osds) (hpo : Sm 32 m.pools) :
    WC Try.prog (tabOf Try.prog NT0) S0 51 [mpV m vo vp vb, pgV pool seed] H fun v h' => Ext H.n H h' ∧ IsSl RInt (fun b => H.n ≤ b) h' v (bootF m (actF m pool seed)) := by
  refine WC_fn Try.func51 rfl rfl ?_
  have o1 := hm.o.one
  have o2 := hm.p.one
  have o3 := hm.b.one
  have w1 := hm.o.isSl
  have w2 := hm.o.lenD
  simp only [core, WB_cond_s, put, ldL, WB_label, List.nil_append, List.drop_zero, List.take_zero, Nat.reduceAdd, Nat.reduceSub, Nat.reduceMul, Nat.reduceLT, Nat.reduceEqDiff, reduceCtorEq, Nat.reduceLeDiff, Int.reduceLE, Int.reduceLT, Int.reduceToNat, Try.ntmps51, mpV, pgV, o1, o2, o3]
  obtain ⟨h1, hh1⟩ : ∃ h1, h1 = (H.push (.cells [.lit (.int .i64 m.epoch), vo, vp, vb, .lit (.int .i64 m.leaf)] 31)).push (.cells [.lit (.int .i64 pool), .lit (.int .i64 seed)] 56) := ⟨_, rfl⟩
  have E1 : Ext H.n H h1 := hh1 ▸ ((Ext.refl _ _).push _ (Nat.le_refl _)).push _ (by rw [n_push]; omega)
  have A1 : h1.at H.n = some (.cells [.lit (.int .i64 m.epoch), vo, vp, vb, .lit (.int .i64 m.leaf)] 31) := hh1 ▸ (at_push_lt _ (by rw [n_push]; omega)).trans (at_push_n _ _)
  have B1 : h1.at (H.n + 1) = some (.cells [.lit (.int .i64 pool), .lit (.int .i64 seed)] 56) := hh1 ▸ at_push_n _ _
  have la1 := at_lt A1
  have lb1 := at_lt B1
  have LA1 := ld_at (T := tabOf Try.prog NT0) A1
  have LB1 := ld_at (T := tabOf Try.prog NT0) B1
  rw [← hh1]
  clear hh1
  refine (act_x pool seed (hm.ext E1 (Nat.le_refl _)) hok hlo hpo).mono ?_
  rintro v h2 ⟨e2, hv⟩
  have E2 := E1.step e2
  have A2 := (e2.2 _ la1).trans A1
  have la2 := at_lt A2
  have v1 := hv.isSl
  have v2 := hv.lenD
  have hlen := actF_len (m := m) (pool := pool) (seed := seed)
  simp only [core, WB_cond_s, put, ldL, WB_label, List.nil_append, List.drop_zero, List.take_zero, Nat.reduceAdd, Nat.reduceSub, Nat.reduceMul, Nat.reduceLT, Nat.reduceEqDiff, reduceCtorEq, Nat.reduceLeDiff, Int.reduceLE, Int.reduceLT, Int.reduceToNat, v1, v2]
  refine WB_for (actF m pool seed).length (fun i t h => ∃ o, OwnL RInt (fun _ => False) h2.n h o 3 (bootF m ((actF m pool seed).take i)) ∧ Ext h2.n h2 h ∧ t.n = 27 ∧ t.get 2 = .ptr H.n 0 ∧ t.get 5 = o ∧ t.get 10 = v ∧ t.get 11 = .lit (.int .i64 (actF m pool seed).length) ∧ t.get 12 = .lit (.int .i64 i)) ?_ ?_ _ _ ?_
  · rintro i t h hlt hc ⟨o, ho, he, hn, g2, g5, g10, g11, g12⟩ ih
    have E3 := E2.step he
    have A3 := (he.2 _ la2).trans A2
    have la3 := at_lt A3
    have LA3 := ld_at (T := tabOf Try.prog NT0) A3
    have hws := wrap_succ hlt (by omega)
    have hld := (hv.ext he (Nat.le_refl _)).int (T := tabOf Try.prog NT0) (e := 3) (by kernel_rfl) (by kernel_rfl) hlt
    obtain ⟨k, y, hk, hky⟩ := able_inv (actF_able ((actF m pool seed).getD i 0) (List.mem_of_getElem? (getD_some' 0 hlt)))
    have hkl : k < m.osds.length := (List.getElem?_eq_some_iff.1 hky).1
    obtain ⟨c, hc1, hg⟩ := (hm.o.ext E3 (Nat.le_refl _)).get (T := tabOf Try.prog NT0) hky
    obtain ⟨rfl, -, I1, -⟩ := ROsd_is.1 hc1
    have hgb : loadA (tabOf Try.prog NT0) h 3 (slB vo) (slO vo + k * 6 + 3) = some (.lit (.int .i64 y.boot)) := (hg 3 1 3 (by kernel_rfl) (by omega) (by decide)).trans (by simp only [core, WB_cond_s, put, ldL, WB_label, List.nil_append, List.drop_zero, List.take_zero, Nat.reduceAdd, Nat.reduceSub, Nat.reduceMul, Nat.reduceLT, Nat.reduceEqDiff, reduceCtorEq, Nat.reduceLeDiff, Int.reduceLE, Int.reduceLT, Int.reduceToNat])
    rw [hk] at hld
    simp only [core, WB_cond_s, put, ldL, WB_label, List.nil_append, List.drop_zero, List.take_zero, Nat.reduceAdd, Nat.reduceSub, Nat.reduceMul, Nat.reduceLT, Nat.reduceEqDiff, reduceCtorEq, Nat.reduceLeDiff, Int.reduceLE, Int.reduceLT, Int.reduceToNat, hn, g2, g5, g10, g11, g12, hc, hlt, hld, LA3, la3, v1, v2, w1, w2, hkl, hgb]
    obtain ⟨h8, hh8⟩ : ∃ h8, h8 = h.push (.cells [.lit (.int .i64 y.boot)] 3) := ⟨_, rfl⟩
    have e8 : Ext h.n h h8 := hh8 ▸ (Ext.refl _ _).push _ (Nat.le_refl _)
    have A8 : h8.at h.n = some (.cells [.lit (.int .i64 y.boot)] 3) := hh8 ▸ at_push_n h _
    have q7 := he.1
    have q8 := e8.1
    rw [← hh8]
    have htl : (bootF m ((actF m pool seed).take i)).length = i := by unfold bootF; rw [List.length_map, List.length_take]; omega
    refine WOp_app ((ho.ext e8 (Nat.le_refl _)).snoc (by kernel_rfl) (by kernel_rfl) (by kernel_rfl) (zv := .lit (.int .i64 0)) (by kernel_rfl) (by' := 8) (by kernel_rfl) rfl (by decide) (by decide) A8 (y := y.boot) ⟨rfl, I1⟩ (by omega) (by omega) (by omega)) ?_
    rintro s9 h9 ⟨ho9, e9, k9⟩
    have t9 := ho9.one
    simp only [core, WB_cond_s, put, ldL, WB_label, List.nil_append, List.drop_zero, List.take_zero, Nat.reduceAdd, Nat.reduceSub, Nat.reduceMul, Nat.reduceLT, Nat.reduceEqDiff, reduceCtorEq, Nat.reduceLeDiff, Int.reduceLE, Int.reduceLT, Int.reduceToNat, hn, g2, g5, g10, g11, g12, t9, hws]
    refine ih _ _ ⟨s9, ?_, (he.step e8).trans e9, ?_⟩
    · have hel := getD_some' (0 : Int) hlt
      rw [List.take_add_one, hel, hk]
      unfold bootF at ho9 ⊢
      rw [List.map_append]
      have hb : bootO m (k : Int) = y.boot := by unfold bootO; rw [Int.toNat_natCast, hky]
      simp only [Option.toList_some, List.map_cons, List.map_nil, hb]
      exact ho9
    · simp only [core, WB_cond_s, put, ldL, WB_label, List.nil_append, List.drop_zero, List.take_zero, Nat.reduceAdd, Nat.reduceSub, Nat.reduceMul, Nat.reduceLT, Nat.reduceEqDiff, reduceCtorEq, Nat.reduceLeDiff, Int.reduceLE, Int.reduceLT, Int.reduceToNat, hn, g2, g5, g10, g11, g12]
  · rintro t h hc ⟨o, ho, he, hn, g2, g5, g10, g11, g12⟩
    have t9 := ho.one
    rw [List.take_length] at ho
    simp only [core, WB_cond_s, put, ldL, WB_label, List.nil_append, List.drop_zero, List.take_zero, Nat.reduceAdd, Nat.reduceSub, Nat.reduceMul, Nat.reduceLT, Nat.reduceEqDiff, reduceCtorEq, Nat.reduceLeDiff, Int.reduceLE, Int.reduceLT, Int.reduceToNat, hn, g2, g5, g10, g11, g12, hc, t9]
    refine ⟨E2.step he, ?_⟩
    exact ho.toSl (fun _ hf => hf.elim) (fun b hb => by have := E2.1; omega)
  · simp only [core, WB_cond_s, put, ldL, WB_label, List.nil_append, List.drop_zero, List.take_zero, Nat.reduceAdd, Nat.reduceSub, Nat.reduceMul, Nat.reduceLT, Nat.reduceEqDiff, reduceCtorEq, Nat.reduceLeDiff, Int.reduceLE, Int.reduceLT, Int.reduceToNat]
    exact ⟨_, OwnL.nil, Ext.refl _ _, rfl, rfl⟩

end Go.Proofs.Ytkgbeihcepociaa.Ex
end

section
/- The real heap, as the abstract machine sees it: windows of rows that may be read. -/
set_option linter.unusedSimpArgs false
set_option linter.unusedVariables false
namespace Go.Proofs.Ytkgbeihcepociaa.Ex
open Go

/-- A row of cells. -/
def rowO (w : World) (r : Nat) : Option (List Value × TypeId) := match w.heap[r]? with
  | some (.cells cur e _) => some (cur.toList, e)
  | _ => none

theorem rowO_inv {w : World} {r : Nat} {l : List Value} {e : TypeId} (h : rowO w r = some (l, e)) : ∃ cur fz, w.heap[r]? = some (.cells cur e fz) ∧ l = cur.toList := by
  unfold rowO at h
  split at h
  · rename_i cur e' fz hh
    simp only [Option.some.injEq, Prod.mk.injEq] at h
    obtain ⟨rfl, rfl⟩ := h
    exact ⟨cur, fz, hh, rfl⟩
  · cases h

def winsAt (w : World) (r : Nat) : List (Nat × Nat) := match rowO w r with
  | some (l, _) => (List.range (l.length + 1)).map fun off => (r, off)
  | none => []
/-- All windows: a row from a place on. -/
def wins (w : World) : List (Nat × Nat) := (List.range w.heap.size).flatMap (winsAt w)

theorem mem_wins {w : World} {r off : Nat} : (r, off) ∈ wins w ↔ ∃ l e, rowO w r = some (l, e) ∧ off ≤ l.length := by
  unfold wins
  rw [List.mem_flatMap]
  constructor
  · rintro ⟨r', _, h⟩
    unfold winsAt at h
    split at h
    · rename_i l e hl
      obtain ⟨off', h1, h2⟩ := List.mem_map.1 h
      simp only [Prod.mk.injEq] at h2
      obtain ⟨rfl, rfl⟩ := h2
      rw [List.mem_range] at h1
      exact ⟨l, e, hl, by omega⟩
    · cases h
  · rintro ⟨l, e, hl, ho⟩
    refine ⟨r, ?_, ?_⟩
    · obtain ⟨cur, fz, hh, _⟩ := rowO_inv hl
      rw [List.mem_range]
      exact (Array.getElem?_eq_some_iff.1 hh).1
    · unfold winsAt
      rw [hl]
      exact List.mem_map.2 ⟨off, by rw [List.mem_range]; omega, rfl⟩

/-- A window's number. -/
def widx (w : World) (p : Nat × Nat) : Nat := (wins w).idxOf p + 1
def mu0 (w : World) : Mu := fun b => match b with
  | 0 => none
  | k + 1 => (wins w)[k]?

theorem mu0_widx {w : World} {p : Nat × Nat} (h : p ∈ wins w) : mu0 w (widx w p) = some p := by
  show (wins w)[(wins w).idxOf p]? = some p
  have hlt := List.idxOf_lt_length_of_mem h
  rw [List.getElem?_eq_getElem hlt, List.getElem_idxOf hlt]

instance (w : World) (p : Nat × Nat) : Decidable (p ∈ wins w) := inferInstance

def absV (w : World) : Value → AV
  | .pointer (some ⟨r, o, none⟩) => if (r, o) ∈ wins w then .ptr (widx w (r, o)) 0 else .any
  | .slice (some a) len cap => if len = 0 ∧ cap = 0 then .sl 0 0 0 (.kn 0) else match a with
    | ⟨r, o, none⟩ => if (r, o) ∈ wins w ∧ len ≤ cap ∧ cap ≤ maxLen then .sl (widx w (r, o)) 0 len (.kn cap) else .any
    | _ => .any
  | v => bif scal v then .lit v else .any

theorem absV_one (w : World) (v : Value) : (absV w v).one = true := by
  unfold absV
  split
  · split <;> rfl
  · split
    · rfl
    · split
      · split <;> rfl
      · rfl
  · cases scal v <;> rfl

theorem absV_rel {ρ : Nat → Value} {w : World} {v : Value} (hv : v.oneCell' = true) : rel ρ (mu0 w) w (absV w v) v := by
  unfold absV
  split
  · rename_i r o
    split
    · rename_i hm
      unfold rel
      exact ⟨r, o, mu0_widx hm, rfl⟩
    · unfold rel; exact hv
  · rename_i a len cap
    split
    · rename_i h0
      obtain ⟨rfl, rfl⟩ := h0
      unfold rel
      exact .inr ⟨rfl, rfl, a, rfl⟩
    · split
      · rename_i r o
        split
        · rename_i hm
          unfold rel
          exact .inl ⟨r, o, o, cap, mu0_widx hm.1, rfl, .inr rfl, rfl, hm.2.1, hm.2.2⟩
        · unfold rel; exact hv
      · unfold rel; exact hv
  · cases hs : scal v with
    | false => simp only [cond_false]; unfold rel; exact hv
    | true => simp only [cond_true]; exact rel_lit hs

/-- A window's cells, as far as they are cells. -/
def absB (w : World) (p : Nat × Nat) : AB := match rowO w p.1 with
  | some (l, e) => .frz (((l.drop p.2).takeWhile (·.oneCell')).map (absV w)) e
  | none => .gone

def AH.ofList (l : List AB) : AH := l.foldl AH.push .nil

theorem L_foldl : ∀ (l : List AB) (h : AH), (l.foldl AH.push h).L = h.L ++ l
  | [], h => by simp
  | x :: r, h => by rw [List.foldl_cons, L_foldl r, L_push, List.append_assoc]; rfl

theorem L_ofList (l : List AB) : (AH.ofList l).L = l := by
  unfold AH.ofList
  rw [L_foldl]
  rfl

/-- The abstract heap of a world; block 0 is an empty row. -/
def absH (w : World) : AH := AH.ofList (.frz [] 0 :: (wins w).map (absB w))

theorem absH_L (w : World) : (absH w).L = .frz [] 0 :: (wins w).map (absB w) := L_ofList _
theorem absH_0 (w : World) : (absH w).at 0 = some (.frz [] 0) := by rw [← L_at, absH_L]; rfl
theorem absH_at {w : World} {p : Nat × Nat} (h : p ∈ wins w) : (absH w).at (widx w p) = some (absB w p) := by
  rw [← L_at, absH_L]
  have : (wins w)[(wins w).idxOf p]? = some p := mu0_widx h
  show ((wins w).map (absB w))[(wins w).idxOf p]? = _
  rw [List.getElem?_map, this]
  rfl

theorem absH_wr {w : World} {b : Nat} {ab : AB} (h : (absH w).L[b]? = some ab) : wr ab = false := by
  rw [absH_L] at h
  cases b with
  | zero => simp at h; subst h; rfl
  | succ k =>
    rw [List.getElem?_cons_succ, List.getElem?_map] at h
    obtain ⟨p, _, rfl⟩ := Option.map_eq_some_iff.1 h
    unfold absB
    split <;> rfl

theorem absH_nw (w : World) (b : Nat) (ab : AB) (h : (absH w).at b = some ab) : wr ab = false := absH_wr (by rw [L_at]; exact h)

theorem takeWhile_get {α : Type} {p : α → Bool} : ∀ {l : List α} {i : Nat} {x : α}, (l.takeWhile p)[i]? = some x → l[i]? = some x ∧ p x = true
  | [], i, x, h => by simp at h
  | a :: r, i, x, h => by
    rw [List.takeWhile_cons] at h
    cases ha : p a with
    | false => rw [ha] at h; simp at h
    | true =>
      rw [ha] at h
      cases i with
      | zero => simp at h; subst h; exact ⟨rfl, ha⟩
      | succ i => simp only [if_true, List.getElem?_cons_succ] at h ⊢; exact takeWhile_get h

theorem takeWhile_take {α : Type} {p : α → Bool} : ∀ {l : List α} {n : Nat}, (∀ x ∈ l.take n, p x = true) → (l.takeWhile p).take n = l.take n
  | [], n, _ => by simp
  | a :: r, 0, _ => by simp
  | a :: r, n + 1, h => by
    rw [List.takeWhile_cons, if_pos (h a (by simp)), List.take_succ_cons, List.take_succ_cons, takeWhile_take fun x hx => h x (by simp [hx])]

theorem absH_hr {P : Program} {ρ : Nat → Value} (w : World) : HR P ρ w.heap.size (mu0 w) (absH w) w := by
  refine ⟨Nat.le_refl _, fun b x hb => ?_, fun b r base ab hb hx => ?_, fun b b' r base base' ab ab' h1 h2 h3 h4 h5 h6 => ?_⟩
  · rw [absH_L]
    cases b with
    | zero => cases hb
    | succ k =>
      have : k < (wins w).length := (List.getElem?_eq_some_iff.1 (show (wins w)[k]? = some x from hb)).1
      simp only [List.length_cons, List.length_map]
      omega
  · cases b with
    | zero => cases hb
    | succ k =>
      have hk : (wins w)[k]? = some (r, base) := hb
      rw [absH_L, List.getElem?_cons_succ, List.getElem?_map, hk] at hx
      simp only [Option.map_some, Option.some.injEq] at hx
      obtain ⟨l, e, hl, ho⟩ := mem_wins.1 (List.mem_of_getElem? hk)
      obtain ⟨cur, fz, hh, rfl⟩ := rowO_inv hl
      unfold absB at hx
      rw [hl] at hx
      simp only at hx
      subst hx
      refine ⟨fun hw => (by cases hw), (Array.getElem?_eq_some_iff.1 hh).1, _, hh, cur, fz, rfl, ?_, fun i x hi => ?_⟩
      · have h1 := (List.takeWhile_prefix (l := cur.toList.drop base) (·.oneCell')).length_le
        rw [List.length_drop] at h1
        have e0 : cur.toList.length = cur.size := Array.length_toList
        rw [e0] at h1 ho
        rw [List.length_map]
        exact Nat.le_trans (Nat.add_le_add_left h1 base) (by omega)
      · rw [List.getElem?_map] at hi
        obtain ⟨v, hv, rfl⟩ := Option.map_eq_some_iff.1 hi
        obtain ⟨h1, h2⟩ := takeWhile_get hv
        rw [List.getElem?_drop, Array.getElem?_toList] at h1
        exact ⟨v, h1, absV_rel h2⟩
  · have := absH_wr h3
    rw [this] at h5
    cases h5

end Go.Proofs.Ytkgbeihcepociaa.Ex
end

section
/- Opening a law's arguments; the frame of a law's proof. -/
set_option linter.unusedSimpArgs false
set_option linter.unusedVariables false
namespace Go.Proofs.Ytkgbeihcepociaa
open Go.RowKit Go.ChangeShapes Go.WideShapes Go.ChangeAt
open Go.ChangeMaps (open_string shut_string)

theorem own : ownKnob Try.prog.godebug = none := by kernel_rfl
theorem laidOut : laidOutB Try.prog = true := by kernel_rfl

section
variable {H : Type} {enc : TypeId × Value → H} {P : Program} {W W' : World}

theorem below_trodAll (hl : laidOutB P = true) (hb : Below W.heap.size W W') : ∀ {ts : List TypeId} {vs : List Value} {ds : List (DataW H)} {ps : List MemPlace},
    ts.all (fun t => P.readableRec t && decide (t < P.types.size)) = true → DataW.TrodAll enc P W 0 (fun _ => true) true ts vs ds ps → DataW.TrodAll enc P W' 0 (fun b => decide (b < W.heap.size)) true ts vs ds ps
  | [], _, _, _, _, h => by obtain ⟨rfl, rfl, rfl⟩ := trodAll_nil h; exact trodAll_mk0
  | t :: ts, vs, ds, ps, hr, h => by
    obtain ⟨v, vs', d, ds', p, q, rfl, rfl, rfl, h1, h2⟩ := trodAll_cons h
    simp only [List.all_cons, Bool.and_eq_true, decide_eq_true_eq] at hr
    refine trodAll_cons_mk (Below.trod hl hr.1.1 hr.1.2 h1 hb ?_) (below_trodAll hl hb (by simpa using hr.2) h2)
    obtain ⟨m, hm⟩ := h1
    exact DataW.trod_lt m _ _ _ hm

/-- A slice of bytes, out of a reading. -/
theorem bytes_of_trod {base fuel : Nat} {t e : TypeId} {cs : List Value} {x : DataW H × List MemPlace} (ht : P.underlying t = some (.slice e)) (he : P.underlying e = some (.int .u8)) (hc : P.cellsOf e = 1) (hb : P.bytesOf e = 1)
    (hf : DataW.trod enc P W base (fun _ => true) true fuel t cs = some x) (hw : ∀ n ∈ x.1.weights P t, n ≤ reachBytes) :
    ∃ (v : Value) (bs : List UInt8) (g : Option Nat), cs = [v] ∧ Reads W 1 v bs.length (bs.map bv) g ∧ (∀ k, g = some k → bs ≠ [] → k < W.heap.size) ∧ bs.length ≤ 140737488351232 := by
  rcases open_ints ht he hc hf with ⟨hcs, hx⟩ | ⟨y, len0, cap0, zs, hcs, _, hl, hm, hz, hx, hcell, hwz⟩
  · exact ⟨_, [], none, hcs, ⟨by simp, .inl ⟨_, 0, rfl, rfl⟩⟩, (fun k e => by cases e), by simp⟩
  · simp only [if_true] at hz
    have hs : (len0 + (cap0 - len0)) * 1 ≤ reachBytes := by
      refine hw _ ?_
      rw [hx]
      simp only [DataW.weights, ht, List.mem_cons]
      left
      rw [hb]
      simp only [lits, List.length_map, List.length_take, List.length_drop]
      omega
    simp only [reachBytes] at hs
    obtain ⟨b, off, spot⟩ := y
    have hlen : ((zs.take len0).map fun n => UInt8.ofNat n.toNat).length = len0 := by rw [List.length_map, List.length_take]; omega
    by_cases h0 : len0 = 0
    · subst h0
      exact ⟨_, [], none, hcs, ⟨by simp, .inl ⟨_, _, rfl, rfl⟩⟩, (fun k e => by cases e), by simp⟩
    · have hsp : spot = none := by
        have := hcell 0 (by omega)
        simpa [Addr.add] using World.cell?_spot this
      subst hsp
      refine ⟨_, (zs.take len0).map fun n => UInt8.ofNat n.toNat, some b, hcs, ⟨by rw [List.length_map, Nat.mul_one], .inr ⟨b, off, cap0, rfl, by rw [hlen], by rw [hlen]; exact hl, hm, fun j hj => ?_⟩⟩, ?_, by rw [hlen]; omega⟩
      · rw [List.length_map, hlen] at hj
        have h1 := hcell j (by omega)
        rw [addr_add] at h1
        have hzj : zs.getD j 0 ∈ zs := by
          rw [List.getD_eq_getElem?_getD, List.getElem?_eq_getElem (by omega)]
          exact List.getElem_mem _
        have hw := hwz _ hzj
        simp only [Lit.wf, IntKind.min, IntKind.max, IntKind.signed, IntKind.bits] at hw
        simp at hw
        rw [h1, List.getElem?_map, List.getElem?_map, List.getElem?_take, if_pos hj, List.getElem?_eq_getElem (by omega)]
        simp only [Option.map_some, bv]
        rw [List.getD_eq_getElem?_getD]
        rw [List.getElem?_eq_getElem (by omega)] at hw ⊢
        simp only [Option.getD_some] at hw ⊢
        congr 2
        rw [UInt8.toNat_ofNat']
        omega
      · rintro k ⟨⟩ _
        exact World.block_lt_of_cell? _ _ (hcell 0 (by omega))

theorem weights_le {ts : List TypeId} {ds : List (DataW H)} (hsz : (DataW.weightsEach P ts ds).all (· ≤ reachBytes) = true) {j : Nat} {t : TypeId} {d : DataW H} (hj : ts[j]? = some t) (hd : ds[j]? = some d) : ∀ n ∈ d.weights P t, n ≤ reachBytes := fun n hn => by
  have := List.all_eq_true.1 hsz n (DataW.weights_mem_each hj hd n hn)
  simpa using this

/-- A slice of bytes that came in. -/
theorem open_bytes {r : Reach} {b0 : Nat} {t e : TypeId} {v : Value} {d : DataW H} {p : List MemPlace} (ht : P.underlying t = some (.slice e)) (he : P.underlying e = some (.int .u8)) (hc : P.cellsOf e = 1) (hb : P.bytesOf e = 1)
    (hv : Value.okWide P W r b0 t v) (h : DataW.Trod enc P W 0 (fun _ => true) true t v d p) {ts : List TypeId} {ds : List (DataW H)} (hsz : (DataW.weightsEach P ts ds).all (· ≤ reachBytes) = true) {j : Nat} (hj : ts[j]? = some t) (hd : ds[j]? = some d) :
    ∃ (bs : List UInt8) (g : Option Nat), Reads W 1 v bs.length (bs.map bv) g ∧ (∀ k, g = some k → bs ≠ [] → k < W.heap.size) ∧ bs.length ≤ 140737488351232 := by
  obtain ⟨a0, len0, cap0, rfl⟩ := okWide_slice ht hv
  obtain ⟨fuel, hf⟩ := h
  obtain ⟨v, bs, g, hcs, h1, h2, h3⟩ := bytes_of_trod ht he hc hb hf (weights_le hsz hj hd)
  simp [Value.cells] at hcs
  subst hcs
  exact ⟨bs, g, h1, h2, h3⟩

/-- A slice of slices of bytes: element i lies in cell i of a row. -/
structure Bytess (W : World) (v : Value) (n : Nat) (L : List (List UInt8)) : Prop where
  len : L.length = n
  shape : ∃ a c, v = .slice a n c ∧ n ≤ c
  small : n ≤ 140737488351232
  elem : ∀ i, i < n → ∃ b off c x g, v = .slice (some ⟨b, off, none⟩) n c ∧ b < W.heap.size ∧ W.cell? ⟨b, off + i, none⟩ = some x ∧ Reads W 1 x (L.getD i []).length ((L.getD i []).map bv) g ∧ (∀ k, g = some k → L.getD i [] ≠ [] → k < W.heap.size) ∧ (L.getD i []).length ≤ 140737488351232

theorem weightsAll_mem {e : TypeId} : ∀ {l : List (DataW H)} {i : Nat} {d : DataW H}, l[i]? = some d → ∀ n ∈ d.weights P e, n ∈ DataW.weightsAll P e l
  | d0 :: l, 0, d, h, n, hn => by simp at h; subst h; simp [DataW.weightsAll, hn]
  | d0 :: l, i + 1, d, h, n, hn => by
    simp only [List.getElem?_cons_succ] at h
    simp only [DataW.weightsAll, List.mem_append]
    exact .inr (weightsAll_mem h n hn)

theorem open_bytess {r : Reach} {b0 : Nat} {t s e : TypeId} {v : Value} {d : DataW H} {p : List MemPlace} (ht : P.underlying t = some (.slice s)) (hs : P.underlying s = some (.slice e)) (he : P.underlying e = some (.int .u8)) (hcs : P.cellsOf s = 1) (hbs : P.bytesOf s = 24) (hc : P.cellsOf e = 1) (hb : P.bytesOf e = 1)
    (hv : Value.okWide P W r b0 t v) (h : DataW.Trod enc P W 0 (fun _ => true) true t v d p) {ts : List TypeId} {ds : List (DataW H)} (hsz : (DataW.weightsEach P ts ds).all (· ≤ reachBytes) = true) {j : Nat} (hj : ts[j]? = some t) (hd : ds[j]? = some d) :
    ∃ n L, Bytess W v n L := by
  obtain ⟨a0, len0, cap0, rfl⟩ := okWide_slice ht hv
  obtain ⟨fuel, hf⟩ := h
  have hwt := weights_le hsz hj hd
  rcases DataW.trod_slice ht hf with ⟨h0, hx⟩ | ⟨a, len, cap, elems, rest, m, rfl, h0, hx, hba, hl, hm, hlen, hel, hsp, hns⟩
  · simp [Value.cells] at h0
    obtain ⟨rfl, rfl, rfl⟩ := h0
    exact ⟨0, [], rfl, ⟨_, _, rfl, Nat.le_refl _⟩, by omega, fun i hi => by omega⟩
  · simp [Value.cells] at h0
    obtain ⟨rfl, rfl, rfl⟩ := h0
    obtain ⟨rfl, rfl⟩ := Prod.mk.inj hx
    have hbig : (elems.length + rest.length) * 24 ≤ reachBytes := by
      refine hwt _ ?_
      simp [DataW.weights, ht, hbs]
    simp only [reachBytes] at hbig
    rw [hcs] at hel
    simp only [Nat.mul_one] at hel
    have key : ∀ i, i < len0 → ∃ (bs : List UInt8) (x : Value) (g : Option Nat), W.cell? (a.add i) = some x ∧ Reads W 1 x bs.length (bs.map bv) g ∧ (∀ k, g = some k → bs ≠ [] → k < W.heap.size) ∧ bs.length ≤ 140737488351232 := by
      intro i hi
      have h1 := hel i hi
      obtain ⟨y, hy⟩ : ∃ y, elems[i]? = some y := ⟨_, List.getElem?_eq_getElem (by omega)⟩
      rw [hy] at h1
      obtain ⟨l, hl1, hl2⟩ := Option.bind_eq_some_iff.1 h1
      obtain ⟨x, bs, g, e1, h3, h4, h5⟩ := bytes_of_trod hs he hc hb hl2 (fun n hn => hwt n (by
        simp only [DataW.weights, ht, List.mem_cons, List.mem_append]
        exact .inr (.inl (weightsAll_mem (i := i) (by rw [List.getElem?_map, hy]; rfl) n hn))))
      subst e1
      have hcell : W.cell? (a.add i) = some x := cell_of_cells?_one hl1
      exact ⟨bs, x, g, hcell, h3, h4, h5⟩
    have key' : ∀ i, ∃ bs : List UInt8, i < len0 → ∃ (x : Value) (g : Option Nat), W.cell? (a.add i) = some x ∧ Reads W 1 x bs.length (bs.map bv) g ∧ (∀ k, g = some k → bs ≠ [] → k < W.heap.size) ∧ bs.length ≤ 140737488351232 := by
      intro i
      by_cases hi : i < len0
      · obtain ⟨bs, h⟩ := key i hi
        exact ⟨bs, fun _ => h⟩
      · exact ⟨[], fun h => absurd h hi⟩
    obtain ⟨F, hF⟩ := Classical.axiomOfChoice key'
    refine ⟨len0, (List.range len0).map F, by simp, ⟨_, _, rfl, hl⟩, by omega, fun i hi => ?_⟩
    have hgd : ((List.range len0).map F).getD i [] = F i := by
      rw [List.getD_eq_getElem?_getD, List.getElem?_map, List.getElem?_range hi]; rfl
    rw [hgd]
    obtain ⟨x, g, h1, h2, h3, h4⟩ := hF i hi
    obtain ⟨b, off, spot⟩ := a
    have hsp : spot = none := by
      obtain ⟨x0, g0, h0, -⟩ := hF 0 (by omega)
      simpa [Addr.add] using World.cell?_spot h0
    subst hsp
    rw [addr_add] at h1
    exact ⟨b, off, _, x, g, rfl, World.block_lt_of_cell? _ _ h1, h1, h2, h3, h4⟩

/-- An array of two integers, by value. -/
theorem open_arr2 {r : Reach} {b0 : Nat} {t e : TypeId} {k : IntKind} {v : Value} {d : DataW H} {p : List MemPlace} (ht : P.underlying t = some (.array 2 e)) (he : P.underlying e = some (.int k)) (hc : P.cellsOf e = 1) (hct : P.cellsOf t = 2)
    (hv : Value.okWide P W r b0 t v) (h : DataW.Trod enc P W 0 (fun _ => true) true t v d p) :
    ∃ x y : Int, v = .agg #[.int k x, .int k y] ∧ (Lit.int k x).wf = true ∧ (Lit.int k y).wf = true := by
  unfold Value.okWide at hv
  rw [ht] at hv
  obtain ⟨cs, rfl, hsz, -⟩ := hv
  rw [hct] at hsz
  obtain ⟨fuel, hf⟩ := h
  obtain ⟨xs, m, rfl, hx, hl, hxl, hel⟩ := DataW.trod_array ht hf
  obtain ⟨l⟩ := cs
  obtain ⟨c0, c1, rfl⟩ : ∃ c0 c1, l = [c0, c1] := by
    match l, hsz with
    | [c0, c1], _ => exact ⟨c0, c1, rfl⟩
  have e0 := hel 0 (by omega)
  have e1 := hel 1 (by omega)
  rw [hc] at e0 e1
  simp [Value.cells] at e0 e1
  have hx0 : ∃ y, xs[0]? = some y := ⟨_, List.getElem?_eq_getElem (by omega)⟩
  have hx1 : ∃ y, xs[1]? = some y := ⟨_, List.getElem?_eq_getElem (by omega)⟩
  obtain ⟨y0, hy0⟩ := hx0
  obtain ⟨y1, hy1⟩ := hx1
  rw [hy0] at e0
  rw [hy1] at e1
  obtain ⟨n0, q0, -, w0⟩ := DataW.trod_int he e0
  obtain ⟨n1, q1, -, w1⟩ := DataW.trod_int he e1
  simp at q0 q1
  subst q0 q1
  exact ⟨n0, n1, rfl, w0, w1⟩

end
end Go.Proofs.Ytkgbeihcepociaa
end

section
/- Opening a law's arguments for the abstract machine: a reading of a value gives plain data in the abstract heap. -/
set_option linter.unusedSimpArgs false
set_option linter.unusedVariables false
namespace Go.Proofs.Ytkgbeihcepociaa.Ex
open Go Go.RowKit Go.ChangeShapes Go.WideShapes Go.ChangeAt

section
variable {H : Type} (enc : TypeId × Value → H)

/-- The blocks of the abstract heap. -/
def InH (W : World) : Nat → Prop := fun b => b < (absH W).n

/-- A value of type t that is read is plain data; of what is not too great, B holds. -/
def OpensA (P : Program) (W : World) (t : TypeId) {α : Type} (R : Rep α) (B : α → Prop) : Prop :=
  P.cellsOf t = R.z ∧ ∀ (fuel : Nat) (cs : List Value) (x : DataW H × List MemPlace), DataW.trod enc P W 0 (fun _ => true) true fuel t cs = some x → (x.1.weights P t).all (· ≤ reachBytes) = true →
    cs.length = R.z ∧ (∀ c ∈ cs, c.oneCell' = true) ∧ ∃ y, R.is (InH W) (absH W) (cs.map (absV W)) y ∧ B y

variable {enc} {P : Program} {W : World}

theorem opensA_int {t : TypeId} (ht : P.underlying t = some (.int .i64)) (hc : P.cellsOf t = 1) : OpensA enc P W t RInt (fun _ => True) := by
  refine ⟨hc, fun fuel cs x h _ => ?_⟩
  obtain ⟨n, rfl, rfl, hw⟩ := DataW.trod_int ht h
  refine ⟨rfl, by simp; rfl, n, ⟨rfl, ?_⟩, trivial⟩
  simp only [Lit.wf, IntKind.min, IntKind.max, IntKind.signed, IntKind.bits] at hw
  simp at hw
  exact ⟨hw.1, by omega⟩

theorem opensA_u32 {t : TypeId} (ht : P.underlying t = some (.int .u32)) (hc : P.cellsOf t = 1) : OpensA enc P W t RU32 (fun _ => True) := by
  refine ⟨hc, fun fuel cs x h _ => ?_⟩
  obtain ⟨n, rfl, rfl, hw⟩ := DataW.trod_int ht h
  simp only [Lit.wf, IntKind.min, IntKind.max, IntKind.signed, IntKind.bits] at hw
  simp at hw
  refine ⟨rfl, by simp; rfl, n.toNat, ⟨?_, by omega⟩, trivial⟩
  rw [show ((n.toNat : Nat) : Int) = n by omega]
  rfl

theorem opensA_bool {t : TypeId} (ht : P.underlying t = some .bool) (hc : P.cellsOf t = 1) : OpensA enc P W t RBool (fun _ => True) := by
  refine ⟨hc, fun fuel cs x h _ => ?_⟩
  obtain ⟨b, rfl, rfl⟩ := DataW.trod_bool ht h
  exact ⟨rfl, by simp; rfl, b, rfl, trivial⟩

theorem opensA_str {t : TypeId} (ht : P.underlying t = some .string) (hc : P.cellsOf t = 1) : OpensA enc P W t RStr (fun s => s.size ≤ maxLen) := by
  refine ⟨hc, fun fuel cs x h _ => ?_⟩
  obtain ⟨s, rfl, rfl, hs⟩ := DataW.trod_string ht h
  exact ⟨rfl, by simp; rfl, s, rfl, hs⟩

theorem flat_getV {α : Type} {z : Nat} : ∀ {L : List (List α)}, (∀ x ∈ L, x.length = z) → ∀ (i : Nat) {c : List α}, L[i]? = some c → (L.flatten.drop (i * z)).take z = c
  | [], _, i, c, hc => by simp at hc
  | a :: r, h, i, c, hc => by
    have ha := h a (by simp)
    cases i with
    | zero =>
      obtain rfl : a = c := by simpa using hc
      rw [Nat.zero_mul, List.drop_zero, List.flatten_cons, ← ha, List.take_left']
      rfl
    | succ i =>
      rw [List.flatten_cons, Nat.succ_mul, Nat.add_comm, List.drop_append, List.drop_of_length_le (by omega), List.nil_append, ha, Nat.add_sub_cancel_left]
      exact flat_getV (fun x hx => h x (by simp [hx])) i (by simpa using hc)

theorem flat_lenV {α : Type} {z : Nat} {L : List (List α)} (h : ∀ x ∈ L, x.length = z) : L.flatten.length = L.length * z := by
  induction L with
  | nil => simp
  | cons a r ih =>
    rw [List.flatten_cons, List.length_append, ih (fun x hx => h x (by simp [hx])), h a (by simp), List.length_cons, Nat.succ_mul]
    omega

theorem weightsAll_mem {e : TypeId} : ∀ {l : List (DataW H)} {d : DataW H}, d ∈ l → ∀ n ∈ d.weights P e, n ∈ DataW.weightsAll P e l
  | a :: r, d, hd, n, hn => by
    simp only [DataW.weightsAll, List.mem_append]
    rcases List.mem_cons.1 hd with rfl | h
    · exact .inl hn
    · exact .inr (weightsAll_mem h n hn)

theorem opensA_list {t e : TypeId} {α : Type} {R : Rep α} {B : α → Prop} {by' : Nat} (ht : P.underlying t = some (.slice e)) (hc : P.cellsOf t = 1) (hb : P.bytesOf e = by') (h0 : 0 < R.z) (ho : OpensA enc P W e R B) :
    OpensA enc P W t (RSl R) (fun ys => ys.length * by' ≤ 140737488351232 ∧ ∀ y ∈ ys, B y) := by
  refine ⟨hc, fun fuel cs x hf hw => ?_⟩
  rcases DataW.trod_slice ht hf with ⟨rfl, rfl⟩ | ⟨a, len, cap, elems, rest, m, rfl, rfl, rfl, hba, hl, hm, hlen, hel, hsp, hns⟩
  · exact ⟨rfl, by simp; rfl, [], RSl_is.2 ⟨_, rfl, IsSl.nil⟩, by simp, by simp⟩
  · rw [ho.1] at hel hsp
    simp only [DataW.weights, ht, List.all_cons, List.all_append, Bool.and_eq_true, decide_eq_true_eq, hb] at hw
    obtain ⟨hw1, hw2, hw3⟩ := hw
    have hrl := (hsp rfl).1
    have hbig : len * by' ≤ 140737488351232 := by
      have h1 : len * by' ≤ (elems.map (·.1)).length * by' + (rest.map (·.1)).length * by' := by rw [List.length_map, hlen]; omega
      rw [← Nat.add_mul] at h1
      exact Nat.le_trans h1 hw1
    have hone : ∀ c ∈ [Value.slice (some a) len cap], c.oneCell' = true := by simp; rfl
    refine ⟨rfl, hone, ?_⟩
    by_cases hz : len = 0 ∧ cap = 0
    · obtain ⟨rfl, rfl⟩ := hz
      refine ⟨[], RSl_is.2 ⟨.sl 0 0 0 (.kn 0), by simp [absV], .mk (L := []) ⟨by simp, .inr ⟨0, 0, _, [], rfl, by unfold getR; rw [absH_0], by simp [cut]⟩⟩ (fun b off n cap e => ?_) (fun b off n cap e => by cases e; exact Nat.le_refl 0) .nil⟩, by simp, by simp⟩
      cases e
      exact at_lt (absH_0 W)
    · have hcap : 0 < cap := by omega
      have hsz0 : elems.length + rest.length = cap := by omega
      -- what is read
      have hrd : ∀ i, i < cap → ∃ l x, W.cells? 0 (a.add (i * R.z)) R.z = some l ∧ DataW.trod enc P W 0 (fun _ => true) true m e l = some x ∧ (i < len → elems[i]? = some x) := fun i hi => by
        by_cases hil : i < len
        · have h2 := hel i hil
          rw [List.getElem?_eq_getElem (by omega)] at h2
          obtain ⟨l, hl1, hl2⟩ := Option.bind_eq_some_iff.1 h2
          exact ⟨l, _, hl1, hl2, fun _ => List.getElem?_eq_getElem (by omega)⟩
        · have h2 := (hsp rfl).2 (i - len) (by omega)
          rw [List.getElem?_eq_getElem (by omega), show len + (i - len) = i by omega] at h2
          obtain ⟨l, hl1, hl2⟩ := Option.bind_eq_some_iff.1 h2
          exact ⟨l, _, hl1, hl2, fun h => absurd h hil⟩
      obtain ⟨r, o, spot⟩ := a
      obtain ⟨l0, x0, q1, q2, -⟩ := hrd 0 hcap
      have hspot : spot = none := by
        have h3 := World.cells?_some q1
        have h4 := h3.2.2 0 h0
        rw [List.getElem?_eq_getElem (by have := h3.2.1; omega)] at h4
        simpa [Addr.add] using World.cell?_spot h4
      subst hspot
      have hcell : ∀ (k : Nat) (v : Value), W.cell? (⟨r, o + k, none⟩ : Addr) = some v → ∃ cur e fz, W.heap[r]? = some (.cells cur e fz) ∧ cur[o + k]? = some v := fun k v hk => by
        unfold World.cell? at hk
        cases hh : W.heap[r]? with
        | none => simp [hh] at hk
        | some ob => cases ob <;> simp [hh] at hk <;> exact ⟨_, _, _, rfl, hk⟩
      -- the row
      obtain ⟨cur, te, fz, hrow⟩ : ∃ cur te fz, W.heap[r]? = some (.cells cur te fz) := by
        have h3 := World.cells?_some q1
        have h4 := h3.2.2 0 h0
        rw [List.getElem?_eq_getElem (by have := h3.2.1; omega)] at h4
        obtain ⟨cur, te, fz, h5, _⟩ := hcell 0 _ (by simpa [Addr.add] using h4)
        exact ⟨cur, te, fz, h5⟩
      have hcur : ∀ i l, W.cells? 0 ((⟨r, o, none⟩ : Addr).add (i * R.z)) R.z = some l → l.length = R.z ∧ ∀ f, f < R.z → cur[o + i * R.z + f]? = l[f]? := fun i l hil => by
        have h3 := World.cells?_some hil
        refine ⟨h3.2.1, fun f hf => ?_⟩
        have h4 := h3.2.2 f hf
        obtain ⟨u, hu⟩ : ∃ u, l[f]? = some u := ⟨_, List.getElem?_eq_getElem (by have := h3.2.1; omega)⟩
        rw [hu] at h4 ⊢
        rw [addr_add, addr_add] at h4
        obtain ⟨cur', te', fz', h5, h6⟩ := hcell (i * R.z + f) _ (by rw [← Nat.add_assoc]; exact h4)
        rw [hrow] at h5
        obtain ⟨rfl, _, _⟩ := Obj.cells.inj (Option.some.inj h5)
        rw [← h6, Nat.add_assoc]
      -- the elements, and the data
      have key : ∀ n, n ≤ len → ∃ (L : List (List Value)) (ys : List α), L.length = n ∧ ys.length = n ∧ (∀ c ∈ L, c.length = R.z ∧ ∀ u ∈ c, u.oneCell' = true) ∧ (∀ (i : Nat) c y, L[i]? = some c → ys[i]? = some y → R.is (InH W) (absH W) (c.map (absV W)) y) ∧ (∀ (i : Nat) c, L[i]? = some c → ∀ f, f < R.z → cur[o + i * R.z + f]? = c[f]?) ∧ ∀ y ∈ ys, B y := by
        intro n
        induction n with
        | zero => exact fun _ => ⟨[], [], rfl, rfl, by simp, by simp, by simp, by simp⟩
        | succ n ih =>
          intro hn
          obtain ⟨L, ys, h1, h2, h3, h4, h5, h6⟩ := ih (by omega)
          obtain ⟨l, x, e1, e2, e3⟩ := hrd n (by omega)
          have e3 := e3 (by omega)
          have hwx : (x.1.weights P e).all (· ≤ reachBytes) = true := by
            rw [List.all_eq_true] at hw2 ⊢
            intro k hk
            exact hw2 k (weightsAll_mem (List.mem_map.2 ⟨x, List.mem_of_getElem? e3, rfl⟩) k hk)
          obtain ⟨g1, g2, y, g3, g4⟩ := ho.2 _ _ _ e2 hwx
          obtain ⟨g5, g6⟩ := hcur n l e1
          refine ⟨L ++ [l], ys ++ [y], by simp [h1], by simp [h2], fun c hc => ?_, fun i c z hc hz => ?_, fun i c hc => ?_, fun z hz => ?_⟩
          · rcases List.mem_append.1 hc with hc | hc
            · exact h3 c hc
            · simp at hc; subst hc; exact ⟨g1, g2⟩
          · by_cases hi : i < n
            · rw [List.getElem?_append_left (by omega)] at hc hz
              exact h4 i c z hc hz
            · have := (List.getElem?_eq_some_iff.1 hc).1
              simp only [List.length_append, List.length_singleton] at this
              obtain rfl : i = n := by omega
              rw [List.getElem?_append_right (by omega), h1, Nat.sub_self] at hc
              rw [List.getElem?_append_right (by omega), h2, Nat.sub_self] at hz
              simp at hc hz
              subst hc hz
              exact g3
          · by_cases hi : i < n
            · rw [List.getElem?_append_left (by omega)] at hc
              exact h5 i c hc
            · have := (List.getElem?_eq_some_iff.1 hc).1
              simp only [List.length_append, List.length_singleton] at this
              obtain rfl : i = n := by omega
              rw [List.getElem?_append_right (by omega), h1, Nat.sub_self] at hc
              simp at hc
              subst hc
              exact g6
          · rcases List.mem_append.1 hz with hz | hz
            · exact h6 z hz
            · simp at hz; subst hz; exact g4
      obtain ⟨L, ys, k1, k2, k3, k4, k5, k6⟩ := key len (Nat.le_refl _)
      have hfl : L.flatten.length = len * R.z := by rw [flat_lenV (fun c hc => (k3 c hc).1), k1]
      have hpre : (cur.toList.drop o).take (len * R.z) = L.flatten := by
        apply List.ext_getElem?
        intro j
        by_cases hj : j < len * R.z
        · rw [List.getElem?_take, if_pos hj, List.getElem?_drop, Array.getElem?_toList]
          have hd : j / R.z < len := Nat.div_lt_of_lt_mul (by rw [Nat.mul_comm]; exact hj)
          have hm2 := Nat.mod_lt j h0
          have hdm := Nat.div_add_mod j R.z
          rw [Nat.mul_comm] at hdm
          have hLd : L[j / R.z]? = some L[j / R.z] := List.getElem?_eq_getElem (by omega)
          have h7 := k5 (j / R.z) _ hLd (j % R.z) hm2
          rw [Nat.add_assoc, hdm] at h7
          rw [h7]
          have h8 := flat_getV (fun c hc => (k3 c hc).1) (j / R.z) hLd
          rw [← h8, List.getElem?_take, if_pos hm2, List.getElem?_drop, hdm]
        · rw [List.getElem?_eq_none (by rw [List.length_take]; omega), List.getElem?_eq_none (by omega)]
      have hto : o ≤ cur.size := by
        obtain ⟨hll, hff⟩ := hcur 0 l0 q1
        have := hff 0 h0
        rw [List.getElem?_eq_getElem (by omega)] at this
        have := (Array.getElem?_eq_some_iff.1 this).1
        omega
      have hro : rowO W r = some (cur.toList, te) := by unfold rowO; rw [hrow]
      have hwin : (r, o) ∈ wins W := mem_wins.2 ⟨_, _, hro, by rw [Array.length_toList]; exact hto⟩
      refine ⟨ys, RSl_is.2 ⟨.sl (widx W (r, o)) 0 len (.kn cap), ?_, .mk (L := L.map (·.map (absV W))) ⟨?_, .inr ⟨widx W (r, o), 0, .kn cap, ((cur.toList.drop o).takeWhile (·.oneCell')).map (absV W), by rw [List.length_map, k1], ?_, ?_⟩⟩ (fun b off n cap e => ?_) (fun b off n cap e => ?_) ⟨by rw [List.length_map, k1, k2], fun i c y hc hy => ?_⟩⟩, by rw [k2]; exact hbig, k6⟩
      · show [absV W (.slice (some ⟨r, o, none⟩) len cap)] = _
        simp only [absV, if_neg hz, if_pos (show (r, o) ∈ wins W ∧ len ≤ cap ∧ cap ≤ maxLen from ⟨hwin, hl, hm⟩)]
      · intro c hc
        obtain ⟨d, hd, rfl⟩ := List.mem_map.1 hc
        rw [List.length_map]
        exact (k3 d hd).1
      · unfold getR
        rw [absH_at hwin]
        simp only [absB, hro]
      · have htw : ((cur.toList.drop o).takeWhile (·.oneCell')).take (len * R.z) = L.flatten := by
          rw [takeWhile_take, hpre]
          intro u hu
          rw [hpre] at hu
          obtain ⟨c, hc, hu⟩ := List.mem_flatten.1 hu
          exact (k3 c hc).2 u hu
        have hlen2 : len * R.z ≤ ((cur.toList.drop o).takeWhile (·.oneCell')).length := by
          have := congrArg List.length htw
          rw [List.length_take, hfl] at this
          omega
        rw [List.length_map, k1]
        unfold cut
        rw [if_pos (by rw [List.length_map]; omega), List.drop_zero, ← List.map_take, htw, List.map_flatten]
      · cases e
        exact at_lt (absH_at hwin)
      · cases e
        exact hl
      · rw [List.getElem?_map] at hc
        obtain ⟨d, hd, rfl⟩ := Option.map_eq_some_iff.1 hc
        exact k4 i d y hd hy

/-! Structs. -/

/-- Values of several types, one behind another. -/
def OpensL (enc : TypeId × Value → H) (P : Program) (W : World) (ts : List TypeId) {α : Type} (R : Rep α) (B : α → Prop) : Prop :=
  (ts.map P.cellsOf).sum = R.z ∧ ∀ (fuel : Nat) (cs : List Value) (xs : List (DataW H × List MemPlace)), cs.length = R.z → xs.length = ts.length →
    (∀ (i : Nat) t, ts[i]? = some t → DataW.trod enc P W 0 (fun _ => true) true fuel t ((cs.drop ((ts.take i).map P.cellsOf).sum).take (P.cellsOf t)) = xs[i]?) →
    (DataW.weightsEach P ts (xs.map (·.1))).all (· ≤ reachBytes) = true →
    (∀ c ∈ cs, c.oneCell' = true) ∧ ∃ y, R.is (InH W) (absH W) (cs.map (absV W)) y ∧ B y

theorem opensL_one {t : TypeId} {α : Type} {R : Rep α} {B : α → Prop} (h : OpensA enc P W t R B) : OpensL enc P W [t] R B := by
  refine ⟨by simp [h.1], fun fuel cs xs hc hx hh hw => ?_⟩
  match xs, hx with
  | [x], _ =>
    have h1 := hh 0 t rfl
    simp only [List.take_zero, List.map_nil, List.sum_nil, List.drop_zero, List.getElem?_cons_zero] at h1
    rw [h.1, ← hc, List.take_length] at h1
    simp only [List.map_cons, List.map_nil, DataW.weightsEach, List.append_nil] at hw
    exact (h.2 _ _ _ h1 hw).2

theorem opensL_cons {t : TypeId} {ts : List TypeId} {α β : Type} {R : Rep α} {S : Rep β} {B : α → Prop} {C : β → Prop} (h : OpensA enc P W t R B) (k : OpensL enc P W ts S C) : OpensL enc P W (t :: ts) (RPair R S) (fun x => B x.1 ∧ C x.2) := by
  refine ⟨by simp [h.1, k.1, RPair], fun fuel cs xs hc hx hh hw => ?_⟩
  match xs, hx with
  | x :: xs, hx =>
    have hcz : cs.length = R.z + S.z := hc
    have h1 := hh 0 t rfl
    simp only [List.take_zero, List.map_nil, List.sum_nil, List.drop_zero, List.getElem?_cons_zero, h.1] at h1
    simp only [List.map_cons, DataW.weightsEach, List.all_append, Bool.and_eq_true] at hw
    obtain ⟨g1, g2, y, g3, g4⟩ := h.2 _ _ _ h1 hw.1
    obtain ⟨q1, z, q2, q3⟩ := k.2 fuel (cs.drop R.z) xs (by rw [List.length_drop]; omega) (by simpa using hx) (fun i t' ht' => by
      have h2 := hh (i + 1) t' (by simpa using ht')
      rw [List.take_succ_cons, List.map_cons, List.sum_cons, h.1, ← List.drop_drop, List.getElem?_cons_succ] at h2
      exact h2) hw.2
    refine ⟨fun c hc => ?_, (y, z), ⟨(cs.take R.z).map (absV W), (cs.drop R.z).map (absV W), ?_, g3, q2⟩, g4, q3⟩
    · rw [← List.take_append_drop R.z cs] at hc
      exact (List.mem_append.1 hc).elim (g2 c) (q1 c)
    · rw [← List.map_append, List.take_append_drop]

/-- Do the fields follow one another? -/
def fieldsOk (P : Program) : List Field → Nat → Bool
  | [], _ => true
  | f :: r, k => Nat.beq f.offset k && fieldsOk P r (k + P.cellsOf f.type)

theorem fieldsOk_at : ∀ {fs : List Field} {k : Nat}, fieldsOk P fs k = true → ∀ (i : Nat) f, fs[i]? = some f → f.offset = k + (((fs.map (·.type)).take i).map P.cellsOf).sum
  | [], k, _, i, f, hf => by simp at hf
  | g :: r, k, h, i, f, hf => by
    simp only [fieldsOk, Bool.and_eq_true] at h
    cases i with
    | zero => simp at hf; subst hf; simpa using Nat.eq_of_beq_eq_true h.1
    | succ i =>
      have := fieldsOk_at h.2 i f (by simpa using hf)
      rw [this]
      simp only [List.map_cons, List.take_succ_cons, List.sum_cons]
      omega

theorem opensA_struct {t : TypeId} {fs : Array Field} {ts : List TypeId} {α β : Type} {R : Rep α} {B : α → Prop} {C : β → Prop} (f : β → α) (g : α → β) (hfg : ∀ y, f (g y) = y) (ht : P.underlying t = some (.struct fs)) (hts : fs.toList.map (·.type) = ts) (hok : fieldsOk P fs.toList 0 = true) (hc : P.cellsOf t = R.z)
    (h : OpensL enc P W ts R B) (hBC : ∀ y, B y → C (g y)) : OpensA enc P W t (RMap f R) C := by
  subst hts
  refine ⟨hc, fun fuel cs x hf hw => ?_⟩
  obtain ⟨xs, n, rfl, rfl, hcs, hxs, hel⟩ := DataW.trod_struct ht hf
  simp only [DataW.weights, ht] at hw
  rw [hc] at hcs
  obtain ⟨q1, y, q2, q3⟩ := h.2 n cs xs hcs (by simpa using hxs) (fun i t' ht' => by
    rw [List.getElem?_map] at ht'
    obtain ⟨fd, hfd, rfl⟩ := Option.map_eq_some_iff.1 ht'
    have := hel i fd (by simpa using hfd)
    rw [fieldsOk_at hok i fd hfd, Nat.zero_add] at this
    exact this) hw
  exact ⟨hcs, q1, g y, by show R.is _ _ _ (f (g y)); rw [hfg]; exact q2, hBC y q3⟩

end

section
variable {H : Type} {enc : TypeId × Value → H} {W : World}
def SmallL (n by' : Nat) : Prop := n * by' ≤ 140737488351232
theorem opensA_ints : OpensA enc Try.prog W 63 (RSl RInt) (fun ys => ys.length * 8 ≤ 140737488351232 ∧ ∀ y ∈ ys, True) :=
  opensA_list (R := RInt) (B := fun _ => True) Try.underlying63 (by kernel_rfl) (by kernel_rfl) (by decide) (opensA_int Try.underlying3 (by kernel_rfl))
end
end Go.Proofs.Ytkgbeihcepociaa.Ex
end

section
/- Opening the structs of the api for the abstract machine (printed by gen_opb.py). -/
set_option linter.unusedSimpArgs false
set_option linter.unusedVariables false
namespace Go.Proofs.Ytkgbeihcepociaa.Ex
open Go Go.RowKit Go.ChangeShapes Go.WideShapes Go.ChangeAt


def OkVer (x : VerD) : Prop := True
def OkInfo (x : InfoD) : Prop := OkVer x.head ∧ OkVer x.tail
def OkIv (x : IvD) : Prop := Sm 8 x.acting ∧ Sm 8 x.boots
def OkPg (x : PgD) : Prop := True
def OkOsd (x : OsdD) : Prop := True
def OkPool (x : PoolD) : Prop := True
def OkBkt (x : BktD) : Prop := Sm 8 x.items ∧ Sm 8 x.weights
def OkMp (x : MapD) : Prop := (Sm 40 x.osds ∧ ∀ y ∈ x.osds, OkOsd y) ∧ (Sm 32 x.pools ∧ ∀ y ∈ x.pools, OkPool y) ∧ (Sm 64 x.buckets ∧ ∀ y ∈ x.buckets, OkBkt y)

section
variable {H : Type} {enc : TypeId × Value → H} {W : World}

theorem opensA_Ver : OpensA enc Try.prog W 138 RVer OkVer :=
  opensA_struct (ts := [3, 3]) (fun x : VerD => (x.epoch, x.n)) (fun y => ⟨y.1, y.2⟩) (fun y => rfl) Try.underlying138 (by rfl) (by kernel_rfl) (by kernel_rfl) (opensL_cons (opensA_int Try.underlying3 (by kernel_rfl)) (opensL_one (opensA_int Try.underlying3 (by kernel_rfl)))) (fun y ⟨_, _⟩ => trivial)
theorem opensA_Info : OpensA enc Try.prog W 140 RInfo OkInfo :=
  opensA_struct (ts := [3, 138, 138, 3]) (fun x : InfoD => (x.les, x.head, x.tail, x.born)) (fun y => ⟨y.1, y.2.1, y.2.2.1, y.2.2.2⟩) (fun y => rfl) Try.underlying140 (by rfl) (by kernel_rfl) (by kernel_rfl) (opensL_cons (opensA_int Try.underlying3 (by kernel_rfl)) (opensL_cons opensA_Ver (opensL_cons opensA_Ver (opensL_one (opensA_int Try.underlying3 (by kernel_rfl)))))) (fun y ⟨_, h1, h2, _⟩ => ⟨h1, h2⟩)
theorem opensA_Infos : OpensA enc Try.prog W 76 (RSl RInfo) (fun ys => Sm 48 ys ∧ ∀ y ∈ ys, OkInfo y) :=
  opensA_list Try.underlying76 (by kernel_rfl) (by kernel_rfl) (by decide) opensA_Info
theorem opensA_Iv : OpensA enc Try.prog W 65 RIv OkIv :=
  opensA_struct (ts := [3, 3, 63, 63, 4]) (fun x : IvD => (x.first, x.last, x.acting, x.boots, x.mayRw)) (fun y => ⟨y.1, y.2.1, y.2.2.1, y.2.2.2.1, y.2.2.2.2⟩) (fun y => rfl) Try.underlying65 (by rfl) (by kernel_rfl) (by kernel_rfl) (opensL_cons (opensA_int Try.underlying3 (by kernel_rfl)) (opensL_cons (opensA_int Try.underlying3 (by kernel_rfl)) (opensL_cons opensA_ints (opensL_cons opensA_ints (opensL_one (opensA_bool Try.underlying4 (by kernel_rfl))))))) (fun y ⟨_, _, ⟨h2, _⟩, ⟨h3, _⟩, _⟩ => ⟨h2, h3⟩)
theorem opensA_Ivs : OpensA enc Try.prog W 59 (RSl RIv) (fun ys => Sm 72 ys ∧ ∀ y ∈ ys, OkIv y) :=
  opensA_list Try.underlying59 (by kernel_rfl) (by kernel_rfl) (by decide) opensA_Iv
theorem opensA_Pg : OpensA enc Try.prog W 56 RPg OkPg :=
  opensA_struct (ts := [3, 3]) (fun x : PgD => (x.pool, x.seed)) (fun y => ⟨y.1, y.2⟩) (fun y => rfl) Try.underlying56 (by rfl) (by kernel_rfl) (by kernel_rfl) (opensL_cons (opensA_int Try.underlying3 (by kernel_rfl)) (opensL_one (opensA_int Try.underlying3 (by kernel_rfl)))) (fun y ⟨_, _⟩ => trivial)
theorem opensA_Osd : OpensA enc Try.prog W 43 ROsd OkOsd :=
  opensA_struct (ts := [4, 4, 3, 3, 3, 3]) (fun x : OsdD => (x.ex, x.up, x.weight, x.boot, x.upFrom, x.upThru)) (fun y => ⟨y.1, y.2.1, y.2.2.1, y.2.2.2.1, y.2.2.2.2.1, y.2.2.2.2.2⟩) (fun y => rfl) Try.underlying43 (by rfl) (by kernel_rfl) (by kernel_rfl) (opensL_cons (opensA_bool Try.underlying4 (by kernel_rfl)) (opensL_cons (opensA_bool Try.underlying4 (by kernel_rfl)) (opensL_cons (opensA_int Try.underlying3 (by kernel_rfl)) (opensL_cons (opensA_int Try.underlying3 (by kernel_rfl)) (opensL_cons (opensA_int Try.underlying3 (by kernel_rfl)) (opensL_one (opensA_int Try.underlying3 (by kernel_rfl)))))))) (fun y ⟨_, _, _, _, _, _⟩ => trivial)
theorem opensA_Osds : OpensA enc Try.prog W 27 (RSl ROsd) (fun ys => Sm 40 ys ∧ ∀ y ∈ ys, OkOsd y) :=
  opensA_list Try.underlying27 (by kernel_rfl) (by kernel_rfl) (by decide) opensA_Osd
theorem opensA_Pool : OpensA enc Try.prog W 94 RPool OkPool :=
  opensA_struct (ts := [3, 3, 3, 3]) (fun x : PoolD => (x.id, x.size, x.min, x.pgs)) (fun y => ⟨y.1, y.2.1, y.2.2.1, y.2.2.2⟩) (fun y => rfl) Try.underlying94 (by rfl) (by kernel_rfl) (by kernel_rfl) (opensL_cons (opensA_int Try.underlying3 (by kernel_rfl)) (opensL_cons (opensA_int Try.underlying3 (by kernel_rfl)) (opensL_cons (opensA_int Try.underlying3 (by kernel_rfl)) (opensL_one (opensA_int Try.underlying3 (by kernel_rfl)))))) (fun y ⟨_, _, _, _⟩ => trivial)
theorem opensA_Pools : OpensA enc Try.prog W 28 (RSl RPool) (fun ys => Sm 32 ys ∧ ∀ y ∈ ys, OkPool y) :=
  opensA_list Try.underlying28 (by kernel_rfl) (by kernel_rfl) (by decide) opensA_Pool
theorem opensA_Bkt : OpensA enc Try.prog W 92 RBkt OkBkt :=
  opensA_struct (ts := [3, 3, 63, 63]) (fun x : BktD => (x.id, x.kind, x.items, x.weights)) (fun y => ⟨y.1, y.2.1, y.2.2.1, y.2.2.2⟩) (fun y => rfl) Try.underlying92 (by rfl) (by kernel_rfl) (by kernel_rfl) (opensL_cons (opensA_int Try.underlying3 (by kernel_rfl)) (opensL_cons (opensA_int Try.underlying3 (by kernel_rfl)) (opensL_cons opensA_ints (opensL_one opensA_ints)))) (fun y ⟨_, _, ⟨h2, _⟩, ⟨h3, _⟩⟩ => ⟨h2, h3⟩)
theorem opensA_Bkts : OpensA enc Try.prog W 29 (RSl RBkt) (fun ys => Sm 64 ys ∧ ∀ y ∈ ys, OkBkt y) :=
  opensA_list Try.underlying29 (by kernel_rfl) (by kernel_rfl) (by decide) opensA_Bkt
theorem opensA_Mp : OpensA enc Try.prog W 31 RMp OkMp :=
  opensA_struct (ts := [3, 27, 28, 29, 3]) (fun x : MapD => (x.epoch, x.osds, x.pools, x.buckets, x.leaf)) (fun y => ⟨y.1, y.2.1, y.2.2.1, y.2.2.2.1, y.2.2.2.2⟩) (fun y => rfl) Try.underlying31 (by rfl) (by kernel_rfl) (by kernel_rfl) (opensL_cons (opensA_int Try.underlying3 (by kernel_rfl)) (opensL_cons opensA_Osds (opensL_cons opensA_Pools (opensL_cons opensA_Bkts (opensL_one (opensA_int Try.underlying3 (by kernel_rfl))))))) (fun y ⟨_, h1, h2, h3, _⟩ => ⟨h1, h2, h3⟩)
theorem opensA_Mps : OpensA enc Try.prog W 33 (RSl RMp) (fun ys => Sm 88 ys ∧ ∀ y ∈ ys, OkMp y) :=
  opensA_list Try.underlying33 (by kernel_rfl) (by kernel_rfl) (by decide) opensA_Mp
end
end Go.Proofs.Ytkgbeihcepociaa.Ex
end
