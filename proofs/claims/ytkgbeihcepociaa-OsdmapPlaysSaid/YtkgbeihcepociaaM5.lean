/- Part 5 of the proof: Om3, Om4, Rt1, Rt2, Rev, Dn, Se1, Par, May, Mpc, Chk, Ck2, Rtc, Rtp, Tk, Try, Trp, Cpy, Sel, Act, Bts, Abs, Open, Opa, Opb, Psm, Om5, Om6, Om7, Om8, Om9, Oms, Psh, On1, On2, On3, On4, On5, On6. -/
import Derived.Test.YtkgbeihcepociaaRows
import Derived.ProofKit
import Derived.OpenShut
import Derived.ShutString
import Derived.ChangeOld
import Derived.SizedLaws
import Derived.Test.YtkgbeihcepociaaM4
section

set_option linter.unusedSimpArgs false
set_option linter.unusedVariables false
set_option maxRecDepth 10000
set_option maxHeartbeats 4000000
namespace Go.Proofs.Ytkgbeihcepociaa.Ex
open Go
def mayOs (epoch : Int) (o : OsdD) (kind value : Int) : Int :=
  if kind = 1 then (if value < 1 then 22 else if o.ex = true ∧ value ≤ o.boot then 126 else 0)
  else if kind = 2 then (if o.ex = false then 2 else if o.up = false ∨ value ≠ o.boot then 126 else 0)
  else if kind = 3 then (if o.ex = false then 2 else if value < 0 ∨ 65536 < value then 22 else 0)
  else (if o.ex = false ∨ o.up = false then 2 else if value < 0 ∨ epoch < value then 22 else if value ≤ o.upThru then 126 else 0)
def mayOsdF (m : MapD) (c : ChD) : Int := mayOs m.epoch (osdG m c.osd) c.kind c.value
theorem mayOsd_x {F : Nat → Prop} {H : AH} {m : MapD} {vo vp vb va vw : AV} (c : ChD) (hm : MpAt F H m vo vp vb) (hl : Sm 40 m.osds) (a1 : va.one = true) (w1 : vw.one = true) :
    WC Try.prog (tabOf Try.prog NT0) S0 118 [mpV m vo vp vb, chV c va vw] H fun r h' => Ext H.n H h' ∧ r = .lit (.int .i64 (mayOsdF m c)) := by
  refine WC_fn Try.func118 rfl rfl ?_
  have o1 := hm.o.one
  have o2 := hm.p.one
  have o3 := hm.b.one
  simp only [core, Nat.reduceAdd, Nat.reduceSub, Nat.reduceMul, Nat.reduceLT, Nat.reduceEqDiff, reduceCtorEq, Nat.reduceLeDiff, Int.reduceLE, Int.reduceLT, Int.reduceToNat, Try.ntmps118, mpV, chV, o1, o2, o3, a1, w1]
  obtain ⟨h0, hh0⟩ : ∃ h0, h0 = (H.push (.cells [.lit (.int .i64 m.epoch), vo, vp, vb, .lit (.int .i64 m.leaf)] 31)).push (.cells [.lit (.int .i64 c.kind), .lit (.int .i64 c.osd), .lit (.int .i64 c.value), .lit (.int .i64 c.pool.id), .lit (.int .i64 c.pool.size), .lit (.int .i64 c.pool.min), .lit (.int .i64 c.pool.pgs), .lit (.int .i64 c.bucket.id), .lit (.int .i64 c.bucket.kind), va, vw] 96) := ⟨_, rfl⟩
  have E0 : Ext H.n H h0 := hh0 ▸ ((Ext.refl _ _).push _ (Nat.le_refl _)).push _ (by rw [n_push]; omega)
  have A1 : h0.at H.n = some (.cells [.lit (.int .i64 m.epoch), vo, vp, vb, .lit (.int .i64 m.leaf)] 31) := hh0 ▸ (at_push_lt _ (by rw [n_push]; omega)).trans (at_push_n _ _)
  have A2 : h0.at (H.n + 1) = some (.cells [.lit (.int .i64 c.kind), .lit (.int .i64 c.osd), .lit (.int .i64 c.value), .lit (.int .i64 c.pool.id), .lit (.int .i64 c.pool.size), .lit (.int .i64 c.pool.min), .lit (.int .i64 c.pool.pgs), .lit (.int .i64 c.bucket.id), .lit (.int .i64 c.bucket.kind), va, vw] 96) := hh0 ▸ at_push_n _ _
  rw [← hh0]
  clear hh0
  refine (osd_x c.osd (hm.ext E0 (Nat.le_refl _)) hl).mono ?_
  rintro r h ⟨e, rfl⟩
  have B1 := (e.2 _ (at_lt A1)).trans A1
  have B2 := (e.2 _ (at_lt A2)).trans A2
  have EH : Ext H.n H h := E0.trans (e.mono E0.1)
  have LB1 := ld_at (T := tabOf Try.prog NT0) B1
  have LB2 := ld_at (T := tabOf Try.prog NT0) B2
  have lb1 := at_lt B1
  have lb2 := at_lt B2
  unfold mayOsdF
  obtain ⟨o, ho⟩ : ∃ o, o = osdG m c.osd := ⟨_, rfl⟩
  rw [← ho]
  clear ho A1 A2 e
  obtain ⟨ex, up, w, b, uf, ut⟩ := o
  simp only [osdV]
  by_cases k1 : c.kind = 1
  · have k1e : (c.kind == 1) = true := by simp [k1]
    have k1n : (c.kind != 1) = false := by simp [k1]
    by_cases c1 : c.value < 1
    · simp only [core, Nat.reduceAdd, Nat.reduceSub, Nat.reduceMul, Nat.reduceLT, Nat.reduceEqDiff, reduceCtorEq, Nat.reduceLeDiff, Int.reduceLE, Int.reduceLT, Int.reduceToNat, LB1, LB2, lb1, lb2, k1e, k1n, c1]
      exact ⟨EH.push _ EH.1, by simp [mayOs, k1, k1e, k1n, c1]⟩
    · cases ex with
      | false =>
        simp only [core, Nat.reduceAdd, Nat.reduceSub, Nat.reduceMul, Nat.reduceLT, Nat.reduceEqDiff, reduceCtorEq, Nat.reduceLeDiff, Int.reduceLE, Int.reduceLT, Int.reduceToNat, LB1, LB2, lb1, lb2, k1e, k1n, c1]
        exact ⟨EH.push _ EH.1, by simp [mayOs, k1, k1e, k1n, c1]⟩
      | true =>
        by_cases c2 : c.value ≤ b
        · simp only [core, Nat.reduceAdd, Nat.reduceSub, Nat.reduceMul, Nat.reduceLT, Nat.reduceEqDiff, reduceCtorEq, Nat.reduceLeDiff, Int.reduceLE, Int.reduceLT, Int.reduceToNat, LB1, LB2, lb1, lb2, k1e, k1n, c1, c2]
          exact ⟨EH.push _ EH.1, by simp [mayOs, k1, k1e, k1n, c1, c2]⟩
        · simp only [core, Nat.reduceAdd, Nat.reduceSub, Nat.reduceMul, Nat.reduceLT, Nat.reduceEqDiff, reduceCtorEq, Nat.reduceLeDiff, Int.reduceLE, Int.reduceLT, Int.reduceToNat, LB1, LB2, lb1, lb2, k1e, k1n, c1, c2]
          exact ⟨EH.push _ EH.1, by simp [mayOs, k1, k1e, k1n, c1, c2]⟩
  · have k1e : (c.kind == 1) = false := by simp [k1]
    have k1n : (c.kind != 1) = true := by simp [k1]
    by_cases k2 : c.kind = 2
    · have k2e : (c.kind == 2) = true := by simp [k2]
      have k2n : (c.kind != 2) = false := by simp [k2]
      cases ex with
      | false =>
        simp only [core, Nat.reduceAdd, Nat.reduceSub, Nat.reduceMul, Nat.reduceLT, Nat.reduceEqDiff, reduceCtorEq, Nat.reduceLeDiff, Int.reduceLE, Int.reduceLT, Int.reduceToNat, LB1, LB2, lb1, lb2, k1e, k1n, k2e, k2n]
        exact ⟨EH.push _ EH.1, by simp [mayOs, k1, k1e, k1n, k2, k2e, k2n]⟩
      | true =>
        cases up with
        | false =>
          simp only [core, Nat.reduceAdd, Nat.reduceSub, Nat.reduceMul, Nat.reduceLT, Nat.reduceEqDiff, reduceCtorEq, Nat.reduceLeDiff, Int.reduceLE, Int.reduceLT, Int.reduceToNat, LB1, LB2, lb1, lb2, k1e, k1n, k2e, k2n]
          exact ⟨EH.push _ EH.1, by simp [mayOs, k1, k1e, k1n, k2, k2e, k2n]⟩
        | true =>
          by_cases c2 : c.value = b
          · have c2e : (c.value == b) = true := by simp [c2]
            have c2n : (c.value != b) = false := by simp [c2]
            simp only [core, Nat.reduceAdd, Nat.reduceSub, Nat.reduceMul, Nat.reduceLT, Nat.reduceEqDiff, reduceCtorEq, Nat.reduceLeDiff, Int.reduceLE, Int.reduceLT, Int.reduceToNat, LB1, LB2, lb1, lb2, k1e, k1n, k2e, k2n, c2e, c2n]
            exact ⟨EH.push _ EH.1, by simp [mayOs, k1, k1e, k1n, k2, k2e, k2n, c2, c2e, c2n]⟩
          · have c2e : (c.value == b) = false := by simp [c2]
            have c2n : (c.value != b) = true := by simp [c2]
            simp only [core, Nat.reduceAdd, Nat.reduceSub, Nat.reduceMul, Nat.reduceLT, Nat.reduceEqDiff, reduceCtorEq, Nat.reduceLeDiff, Int.reduceLE, Int.reduceLT, Int.reduceToNat, LB1, LB2, lb1, lb2, k1e, k1n, k2e, k2n, c2e, c2n]
            exact ⟨EH.push _ EH.1, by simp [mayOs, k1, k1e, k1n, k2, k2e, k2n, c2, c2e, c2n]⟩
    · have k2e : (c.kind == 2) = false := by simp [k2]
      have k2n : (c.kind != 2) = true := by simp [k2]
      by_cases k3 : c.kind = 3
      · have k3e : (c.kind == 3) = true := by simp [k3]
        have k3n : (c.kind != 3) = false := by simp [k3]
        cases ex with
        | false =>
          simp only [core, Nat.reduceAdd, Nat.reduceSub, Nat.reduceMul, Nat.reduceLT, Nat.reduceEqDiff, reduceCtorEq, Nat.reduceLeDiff, Int.reduceLE, Int.reduceLT, Int.reduceToNat, LB1, LB2, lb1, lb2, k1e, k1n, k2e, k2n, k3e, k3n]
          exact ⟨EH.push _ EH.1, by simp [mayOs, k1, k1e, k1n, k2, k2e, k2n, k3, k3e, k3n]⟩
        | true =>
          by_cases c1 : c.value < 0
          · simp only [core, Nat.reduceAdd, Nat.reduceSub, Nat.reduceMul, Nat.reduceLT, Nat.reduceEqDiff, reduceCtorEq, Nat.reduceLeDiff, Int.reduceLE, Int.reduceLT, Int.reduceToNat, LB1, LB2, lb1, lb2, k1e, k1n, k2e, k2n, k3e, k3n, c1]
            exact ⟨EH.push _ EH.1, by simp [mayOs, k1, k1e, k1n, k2, k2e, k2n, k3, k3e, k3n, c1]⟩
          · by_cases c2 : 65536 < c.value
            · simp only [core, Nat.reduceAdd, Nat.reduceSub, Nat.reduceMul, Nat.reduceLT, Nat.reduceEqDiff, reduceCtorEq, Nat.reduceLeDiff, Int.reduceLE, Int.reduceLT, Int.reduceToNat, LB1, LB2, lb1, lb2, k1e, k1n, k2e, k2n, k3e, k3n, c1, c2]
              exact ⟨EH.push _ EH.1, by simp [mayOs, k1, k1e, k1n, k2, k2e, k2n, k3, k3e, k3n, c1, c2]⟩
            · simp only [core, Nat.reduceAdd, Nat.reduceSub, Nat.reduceMul, Nat.reduceLT, Nat.reduceEqDiff, reduceCtorEq, Nat.reduceLeDiff, Int.reduceLE, Int.reduceLT, Int.reduceToNat, LB1, LB2, lb1, lb2, k1e, k1n, k2e, k2n, k3e, k3n, c1, c2]
              exact ⟨EH.push _ EH.1, by simp [mayOs, k1, k1e, k1n, k2, k2e, k2n, k3, k3e, k3n, c1, c2]⟩
      · have k3e : (c.kind == 3) = false := by simp [k3]
        have k3n : (c.kind != 3) = true := by simp [k3]
        cases ex with
        | false =>
          simp only [core, Nat.reduceAdd, Nat.reduceSub, Nat.reduceMul, Nat.reduceLT, Nat.reduceEqDiff, reduceCtorEq, Nat.reduceLeDiff, Int.reduceLE, Int.reduceLT, Int.reduceToNat, LB1, LB2, lb1, lb2, k1e, k1n, k2e, k2n, k3e, k3n]
          exact ⟨EH.push _ EH.1, by simp [mayOs, k1, k1e, k1n, k2, k2e, k2n, k3, k3e, k3n]⟩
        | true =>
          cases up with
          | false =>
            simp only [core, Nat.reduceAdd, Nat.reduceSub, Nat.reduceMul, Nat.reduceLT, Nat.reduceEqDiff, reduceCtorEq, Nat.reduceLeDiff, Int.reduceLE, Int.reduceLT, Int.reduceToNat, LB1, LB2, lb1, lb2, k1e, k1n, k2e, k2n, k3e, k3n]
            exact ⟨EH.push _ EH.1, by simp [mayOs, k1, k1e, k1n, k2, k2e, k2n, k3, k3e, k3n]⟩
          | true =>
            by_cases c1 : c.value < 0
            · simp only [core, Nat.reduceAdd, Nat.reduceSub, Nat.reduceMul, Nat.reduceLT, Nat.reduceEqDiff, reduceCtorEq, Nat.reduceLeDiff, Int.reduceLE, Int.reduceLT, Int.reduceToNat, LB1, LB2, lb1, lb2, k1e, k1n, k2e, k2n, k3e, k3n, c1]
              exact ⟨EH.push _ EH.1, by simp [mayOs, k1, k1e, k1n, k2, k2e, k2n, k3, k3e, k3n, c1]⟩
            · by_cases c2 : m.epoch < c.value
              · simp only [core, Nat.reduceAdd, Nat.reduceSub, Nat.reduceMul, Nat.reduceLT, Nat.reduceEqDiff, reduceCtorEq, Nat.reduceLeDiff, Int.reduceLE, Int.reduceLT, Int.reduceToNat, LB1, LB2, lb1, lb2, k1e, k1n, k2e, k2n, k3e, k3n, c1, c2]
                exact ⟨EH.push _ EH.1, by simp [mayOs, k1, k1e, k1n, k2, k2e, k2n, k3, k3e, k3n, c1, c2]⟩
              · by_cases c3 : c.value ≤ ut
                · simp only [core, Nat.reduceAdd, Nat.reduceSub, Nat.reduceMul, Nat.reduceLT, Nat.reduceEqDiff, reduceCtorEq, Nat.reduceLeDiff, Int.reduceLE, Int.reduceLT, Int.reduceToNat, LB1, LB2, lb1, lb2, k1e, k1n, k2e, k2n, k3e, k3n, c1, c2, c3]
                  exact ⟨EH.push _ EH.1, by simp [mayOs, k1, k1e, k1n, k2, k2e, k2n, k3, k3e, k3n, c1, c2, c3]⟩
                · simp only [core, Nat.reduceAdd, Nat.reduceSub, Nat.reduceMul, Nat.reduceLT, Nat.reduceEqDiff, reduceCtorEq, Nat.reduceLeDiff, Int.reduceLE, Int.reduceLT, Int.reduceToNat, LB1, LB2, lb1, lb2, k1e, k1n, k2e, k2n, k3e, k3n, c1, c2, c3]
                  exact ⟨EH.push _ EH.1, by simp [mayOs, k1, k1e, k1n, k2, k2e, k2n, k3, k3e, k3n, c1, c2, c3]⟩
end Go.Proofs.Ytkgbeihcepociaa.Ex
end

section

set_option linter.unusedSimpArgs false
set_option linter.unusedVariables false
set_option maxRecDepth 10000
set_option maxHeartbeats 4000000
namespace Go.Proofs.Ytkgbeihcepociaa.Ex
open Go
theorem OwnE.put {α : Type} {R : Rep α} {n0 p : Nat} {h : AH} {d : AV} {e : TypeId} {xs : List α} {x : AB} (hd : OwnE R n0 h d e xs) (hp : p < n0) : OwnE R n0 (h.put p x) d e xs := by
  rcases hd with ho | ⟨rfl, q, hq, rfl, hat⟩
  · refine .inl (ho.lift (fun b off n cap ev => ?_) (fun b hb => hb.elim))
    obtain ⟨L, h1, h2⟩ := ho
    rcases h1.2 with ⟨hh, _⟩ | ⟨q, hh, hq, hat⟩
    · rw [hh] at ev; cases ev
    · rw [hh] at ev
      cases ev
      exact at_put_ne _ (by omega)
  · exact .inr ⟨rfl, q, hq, rfl, (at_put_ne _ (by omega)).trans hat⟩
theorem bkt_x {F : Nat → Prop} {H : AH} {va vw : AV} (x : BktD) (ha : IsSl RInt F H va x.items) (hw : IsSl RInt F H vw x.weights) (la : Sm 8 x.items) (lw : Sm 8 x.weights) :
    WC Try.prog (tabOf Try.prog NT0) S0 110 [bktV x va vw] H fun r h' => Ext H.n H h' ∧ ∃ ra rw1, r = bktV x ra rw1 ∧ OwnE RInt H.n h' ra 3 x.items ∧ OwnE RInt H.n h' rw1 3 x.weights := by
  refine WC_fn Try.func110 rfl rfl ?_
  have a1 := ha.one
  have w1 := hw.one
  have a2 := ha.isSl
  have w2 := hw.isSl
  simp only [core, Nat.reduceAdd, Nat.reduceSub, Nat.reduceMul, Nat.reduceLT, Nat.reduceEqDiff, reduceCtorEq, Nat.reduceLeDiff, Int.reduceLE, Int.reduceLT, Int.reduceToNat, Try.ntmps110, bktV, a1, w1]
  obtain ⟨hp, hhp⟩ : ∃ hp, hp = (H.push (.cells [.lit (.int .i64 x.id), .lit (.int .i64 x.kind), va, vw] 92)).push (.cells [.lit (.int .i64 0), .lit (.int .i64 0), .lit (.slice none 0 0), .lit (.slice none 0 0)] 92) := ⟨_, rfl⟩
  have EP : Ext H.n H hp := hhp ▸ ((Ext.refl _ _).push _ (Nat.le_refl _)).push _ (by rw [n_push]; omega)
  have P0 : hp.at H.n = some (.cells [.lit (.int .i64 x.id), .lit (.int .i64 x.kind), va, vw] 92) := hhp ▸ (at_push_lt _ (by rw [n_push]; omega)).trans (at_push_n _ _)
  have Z0 : hp.at (H.n + 1) = some (.cells [.lit (.int .i64 0), .lit (.int .i64 0), .lit (.slice none 0 0), .lit (.slice none 0 0)] 92) := hhp ▸ at_push_n _ _
  have nP : hp.n = H.n + 2 := by rw [hhp, n_push, n_push]
  have LP0 := ld_at (T := tabOf Try.prog NT0) P0
  rw [← hhp]
  clear hhp
  rw [WB_regionD [0, 1, 3, 4, 2, 6, 5, 7, 8, 9] 632895786129742360360258634752 (by kernel_rfl)]
  repeat ((with_reducible refine WDM_cons ?_; simp only [dw1]; try simp only [dw2, Nat.reduceAdd, Nat.reduceMul, Nat.reduceShiftRight, Nat.reduceMod, Nat.reduceEqDiff]); simp only [core, Nat.reduceAdd, Nat.reduceSub, Nat.reduceMul, Nat.reduceLT, Nat.reduceEqDiff, reduceCtorEq, Nat.reduceLeDiff, Int.reduceLE, Int.reduceLT, Int.reduceToNat, cored, LP0, a2, w2])
  refine (cloneI_o (ha.ext EP (Nat.le_refl _)) la).mono ?_
  rintro ra h3 ⟨e3, ra1⟩
  have P3 := (e3.2 _ (at_lt P0)).trans P0
  have Z3 := (e3.2 _ (at_lt Z0)).trans Z0
  have LP3 := ld_at (T := tabOf Try.prog NT0) P3
  have E3 := EP.step e3
  have r1 := (ra1.toSl (F := fun _ => True) (fun _ _ => trivial)).isSl
  have r2 := (ra1.toSl (F := fun _ => True) (fun _ _ => trivial)).one
  repeat ((with_reducible refine WDM_cons ?_; simp only [dw1]; try simp only [dw2, Nat.reduceAdd, Nat.reduceMul, Nat.reduceShiftRight, Nat.reduceMod, Nat.reduceEqDiff]); simp only [core, Nat.reduceAdd, Nat.reduceSub, Nat.reduceMul, Nat.reduceLT, Nat.reduceEqDiff, reduceCtorEq, Nat.reduceLeDiff, Int.reduceLE, Int.reduceLT, Int.reduceToNat, cored, LP3, a2, w2, r1, r2])
  refine (cloneI_o (hw.ext E3 (Nat.le_refl _)) lw).mono ?_
  rintro rw1 h4 ⟨e4, rw2⟩
  have P4 := (e4.2 _ (at_lt P3)).trans P3
  have Z4 := (e4.2 _ (at_lt Z3)).trans Z3
  have LP4 := ld_at (T := tabOf Try.prog NT0) P4
  have E4 := E3.step e4
  have l4 := at_lt P4
  have l6 := at_lt Z4
  have l3 : hp.n ≤ h3.n := e3.1
  have l5 : h3.n ≤ h4.n := e4.1
  have q1 := (rw2.toSl (F := fun _ => True) (fun _ _ => trivial)).isSl
  have q2 := (rw2.toSl (F := fun _ => True) (fun _ _ => trivial)).one
  have hne : ¬ H.n = H.n + 1 := by omega
  repeat ((with_reducible refine WDM_cons ?_; simp only [dw1]; try simp only [dw2, Nat.reduceAdd, Nat.reduceMul, Nat.reduceShiftRight, Nat.reduceMod, Nat.reduceEqDiff]); simp only [core, Nat.reduceAdd, Nat.reduceSub, Nat.reduceMul, Nat.reduceLT, Nat.reduceEqDiff, reduceCtorEq, Nat.reduceLeDiff, Int.reduceLE, Int.reduceLT, Int.reduceToNat, cored, LP4, P4, l4, r1, r2, q1, q2, a2, w2, Z4, l6, hne])
  refine ⟨((E4.put _ (by omega)).put _ (by omega)).put _ (by omega), _, _, rfl, ?_, ?_⟩
  · exact ((((ra1.ext e4 (Nat.le_refl _)).put (by omega)).put (by omega)).put (by omega)).mono (by omega)
  · exact (((rw2.put (by omega)).put (by omega)).put (by omega)).mono (by omega)
end Go.Proofs.Ytkgbeihcepociaa.Ex
end

section

set_option linter.unusedSimpArgs false
set_option linter.unusedVariables false
set_option maxRecDepth 10000
set_option maxHeartbeats 4000000
namespace Go.Proofs.Ytkgbeihcepociaa.Ex
open Go
def mayO (o : OsdD) (osd x : Int) : Bool := o.ex && o.up && decide (0 < o.weight) && decide (IntKind.i64.wrap ((hash2F x (IntKind.u32.wrap osd)).tmod 65536) < o.weight)
def mayF (m : MapD) (osd x : Int) : Bool := if 0 ≤ osd then (match m.osds[osd.toNat]? with | some o => mayO o osd x | none => false) else false
end Go.Proofs.Ytkgbeihcepociaa.Ex
end

section

set_option linter.unusedSimpArgs false
set_option linter.unusedVariables false
set_option maxRecDepth 10000
set_option maxHeartbeats 4000000
namespace Go.Proofs.Ytkgbeihcepociaa.Ex
open Go
end Go.Proofs.Ytkgbeihcepociaa.Ex
end

section

set_option linter.unusedSimpArgs false
set_option linter.unusedVariables false
set_option maxRecDepth 10000
set_option maxHeartbeats 4000000
namespace Go.Proofs.Ytkgbeihcepociaa.Ex
open Go
end Go.Proofs.Ytkgbeihcepociaa.Ex
end

section

set_option linter.unusedSimpArgs false
set_option linter.unusedVariables false
set_option maxRecDepth 10000
set_option maxHeartbeats 4000000
namespace Go.Proofs.Ytkgbeihcepociaa.Ex
open Go
def downF (m : MapD) (k x r : Int) : Nat → Int → Option Int
  | 0, _ => none
  | n + 1, at' => match bucketF m at' with
    | none => none
    | some b => match chooseF b.items b.weights x r with
      | none => none
      | some i => if 0 ≤ b.items.getD i 0 ∨ kindF m (b.items.getD i 0) = k then some (b.items.getD i 0) else downF m k x r n (b.items.getD i 0)
end Go.Proofs.Ytkgbeihcepociaa.Ex
end

section

set_option linter.unusedSimpArgs false
set_option linter.unusedVariables false
set_option maxRecDepth 10000
set_option maxHeartbeats 4000000
namespace Go.Proofs.Ytkgbeihcepociaa.Ex
open Go
/-- One try: the osd, and the bucket that it is to have alone. -/
def tryR (m : MapD) (x root : Int) (s : List Int × List Int) (r : Int) : Option (Int × Int) := match downF m m.leaf x r 4 root with
  | none => none
  | some d => if s.2.contains d then none else match (if d < 0 then downF m 0 x r 4 d else some d) with
    | none => none
    | some o => if !mayF m o x || s.1.contains o then none else some (o, d)
def firstR (m : MapD) (x root : Int) (s : List Int × List Int) (k : Nat) : Nat → Option (Int × Int)
  | 0 => none
  | t + 1 => match firstR m x root s k t with
    | some y => some y
    | none => tryR m x root s ((k + t : Nat) : Int)
attribute [irreducible] firstR
/-- Two own slices lie in two blocks. -/
def Disj (u v : AV) : Prop := ∀ b o n c o' n' c', u = .sl b o n c → v = .sl b o' n' c' → False
theorem Disj.symm {u v : AV} (h : Disj u v) : Disj v u := fun b o n c o' n' c' h1 h2 => h b o' n' c' o n c h2 h1
theorem Disj.apart {u v : AV} (h : Disj u v) {b o n : Nat} {c : Cap} (hv : v = .sl b o n c) : Apart u b := fun o' n' c' hu => h b o' n' c' o n c hu hv
theorem OwnL.other {α : Type} {R : Rep α} {n0 : Nat} {h h' : AH} {u v s : AV} {e : TypeId} {xs : List α} (ho : OwnL R (fun _ => False) n0 h v e xs) (hd : Disj u v) (hk : ∀ b, b < h.n → Apart u b → h'.at b = h.at b ∧ Apart s b) : OwnL R (fun _ => False) n0 h' v e xs ∧ Disj s v := by
  have key : ∀ b off n cap, v = .sl b off n cap → b < h.n := fun b off n cap hv => by
    obtain ⟨L, h1, h2⟩ := ho
    rcases h1.2 with ⟨hh, _⟩ | ⟨p, hh, hp, hat⟩
    · rw [hh] at hv; cases hv
    · rw [hh] at hv; cases hv; exact at_lt hat
  refine ⟨ho.lift (fun b off n cap hv => (hk b (key _ _ _ _ hv) (hd.apart hv)).1) (fun b hb => hb.elim), fun b o n c o' n' c' hs hv => ?_⟩
  exact (hk b (key _ _ _ _ hv) (hd.apart hv)).2 _ _ _ hs
end Go.Proofs.Ytkgbeihcepociaa.Ex
end

section

set_option linter.unusedSimpArgs false
set_option linter.unusedVariables false
set_option maxRecDepth 10000
set_option maxHeartbeats 4000000
namespace Go.Proofs.Ytkgbeihcepociaa.Ex
open Go
end Go.Proofs.Ytkgbeihcepociaa.Ex
end

section

set_option linter.unusedSimpArgs false
set_option linter.unusedVariables false
set_option maxRecDepth 10000
set_option maxHeartbeats 4000000
namespace Go.Proofs.Ytkgbeihcepociaa.Ex
open Go
def fitF (m : MapD) (b : BktD) (id : Int) : Bool := if 0 ≤ id then decide (id < 8) else (bucketF m id).isSome && decide ((bucketG m id).kind < b.kind)
theorem may_x {F : Nat → Prop} {H : AH} {m : MapD} {vo vp vb va vw : AV} {b : BktD} (id : Int) (hm : MpAt F H m vo vp vb) (hl : Sm 64 m.buckets) (hbs : ∀ b ∈ m.buckets, Sm 8 b.items ∧ Sm 8 b.weights) (hva : va.one = true) (hvw : vw.one = true) :
    WC Try.prog (tabOf Try.prog NT0) S0 173 [mpV m vo vp vb, bktV b va vw, .lit (.int .i64 id)] H fun r h' => Ext H.n H h' ∧ r = .lit (.bool (fitF m b id)) := by
  refine WC_fn Try.func173 rfl rfl ?_
  have o1 := hm.o.one
  have o2 := hm.p.one
  have o3 := hm.b.one
  simp only [core, Nat.reduceAdd, Nat.reduceSub, Nat.reduceMul, Nat.reduceLT, Nat.reduceEqDiff, reduceCtorEq, Nat.reduceLeDiff, Int.reduceLE, Int.reduceLT, Int.reduceToNat, Try.ntmps173, mpV, bktV, o1, o2, o3, hva, hvw]
  obtain ⟨h1, hh1⟩ : ∃ h1, h1 = (H.push (.cells [.lit (.int .i64 m.epoch), vo, vp, vb, .lit (.int .i64 m.leaf)] 31)).push (.cells [.lit (.int .i64 b.id), .lit (.int .i64 b.kind), va, vw] 92) := ⟨_, rfl⟩
  have E1 : Ext H.n H h1 := hh1 ▸ ((Ext.refl _ _).push _ (Nat.le_refl _)).push _ (by rw [n_push]; omega)
  have n1 : h1.n = H.n + 2 := by rw [hh1, n_push, n_push]
  have A1 : h1.at (H.n + 1) = some (.cells [.lit (.int .i64 b.id), .lit (.int .i64 b.kind), va, vw] 92) := by
    rw [hh1]
    have := at_push_n (H.push (.cells [.lit (.int .i64 m.epoch), vo, vp, vb, .lit (.int .i64 m.leaf)] 31)) (.cells [.lit (.int .i64 b.id), .lit (.int .i64 b.kind), va, vw] 92)
    rw [n_push] at this
    exact this
  try rw [← hh1]
  clear hh1
  by_cases h0 : 0 ≤ id
  · simp only [core, Nat.reduceAdd, Nat.reduceSub, Nat.reduceMul, Nat.reduceLT, Nat.reduceEqDiff, reduceCtorEq, Nat.reduceLeDiff, Int.reduceLE, Int.reduceLT, Int.reduceToNat, h0]
    refine ⟨E1, ?_⟩
    unfold fitF
    rw [if_pos h0]
  · simp only [core, Nat.reduceAdd, Nat.reduceSub, Nat.reduceMul, Nat.reduceLT, Nat.reduceEqDiff, reduceCtorEq, Nat.reduceLeDiff, Int.reduceLE, Int.reduceLT, Int.reduceToNat, h0]
    refine (bucket_x id (hm.ext E1 (Nat.le_refl _)) hl hbs).mono ?_
    rintro _ h2 ⟨e2, v1, v2, rfl, b1, b2⟩
    have o4 := b1.one
    have o5 := b2.one
    have E2 := E1.step e2
    have A2 := (e2.2 _ (by omega)).trans A1
    have l2 := at_lt A2
    have LA2 := ld_at (T := tabOf Try.prog NT0) A2
    simp only [core, Nat.reduceAdd, Nat.reduceSub, Nat.reduceMul, Nat.reduceLT, Nat.reduceEqDiff, reduceCtorEq, Nat.reduceLeDiff, Int.reduceLE, Int.reduceLT, Int.reduceToNat, bktV, o4, o5, A2, l2, LA2]
    obtain ⟨h3, hh3⟩ : ∃ h3, h3 = h2.push (.cells [.lit (.int .i64 (bucketG m id).id), .lit (.int .i64 (bucketG m id).kind), v1, v2] 92) := ⟨_, rfl⟩
    have e3 : Ext h2.n h2 h3 := hh3 ▸ (Ext.refl _ _).push _ (Nat.le_refl _)
    have B3 : h3.at h2.n = some (.cells [.lit (.int .i64 (bucketG m id).id), .lit (.int .i64 (bucketG m id).kind), v1, v2] 92) := hh3 ▸ at_push_n _ _
    rw [← hh3]
    clear hh3
    have E3 := E2.step e3
    have A3 := (e3.2 _ l2).trans A2
    have l3 := at_lt A3
    have LA3 := ld_at (T := tabOf Try.prog NT0) A3
    have LB3 := ld_at (T := tabOf Try.prog NT0) B3
    have b3 := at_lt B3
    cases hb : (bucketF m id).isSome with
    | false =>
      simp only [core, Nat.reduceAdd, Nat.reduceSub, Nat.reduceMul, Nat.reduceLT, Nat.reduceEqDiff, reduceCtorEq, Nat.reduceLeDiff, Int.reduceLE, Int.reduceLT, Int.reduceToNat]
      refine ⟨E3, ?_⟩
      unfold fitF
      rw [if_neg h0, hb]
      rfl
    | true =>
      simp only [core, Nat.reduceAdd, Nat.reduceSub, Nat.reduceMul, Nat.reduceLT, Nat.reduceEqDiff, reduceCtorEq, Nat.reduceLeDiff, Int.reduceLE, Int.reduceLT, Int.reduceToNat, LA3, LB3, l3, b3]
      refine ⟨E3, ?_⟩
      unfold fitF
      rw [if_neg h0, hb]
      rfl
end Go.Proofs.Ytkgbeihcepociaa.Ex
end

section

set_option linter.unusedSimpArgs false
set_option linter.unusedVariables false
set_option maxRecDepth 10000
set_option maxHeartbeats 4000000
namespace Go.Proofs.Ytkgbeihcepociaa.Ex
open Go
/-- A map whose keys are these, each with 1. -/
def Ones (es : List AE) (ks : List Int) : Prop := es.map (fun e => (e.key, e.val)) = ks.map (fun k => (.int .i64 k, .lit (.int .i64 1)))
theorem findA_int (d : Int) : ∀ (ks : List Int) (es : List AE) (i : Nat), Ones es ks → (d ∉ ks → findA (.int .i64) (.int .i64 d) es i = some none) ∧ (d ∈ ks → ∃ j, j < es.length ∧ findA (.int .i64) (.int .i64 d) es i = some (some (i + j, .lit (.int .i64 1))) ∧ ∀ x, findA (.int .i64) (.int .i64 d) (es.modify j fun e => { e with key := .int .i64 d, val := x }) i = some (some (i + j, x)))
  | [], es, i, h => by
    have : es = [] := by unfold Ones at h; simpa using h
    subst this
    exact ⟨fun _ => rfl, fun h => by cases h⟩
  | k :: ks, es, i, h => by
    cases es with
    | nil => unfold Ones at h; simp at h
    | cons e es =>
    unfold Ones at h
    simp only [List.map_cons, List.cons.injEq, Prod.mk.injEq] at h
    obtain ⟨⟨h1, h2⟩, h3⟩ := h
    obtain ⟨r1, r2⟩ := findA_int d ks es (i + 1) h3
    have hs : Instr.sameNow (.int .i64) (.int .i64 d) e.key = some (d == k) := by rw [h1]; rfl
    have hd : Instr.sameNow (.int .i64) (.int .i64 d) (.int .i64 d) = some (d == d) := rfl
    by_cases hk : d = k
    · subst hk
      refine ⟨fun hn => absurd (List.mem_cons_self ..) hn, fun _ => ⟨0, by simp, ?_, fun x => ?_⟩⟩
      · unfold findA
        rw [hs, beq_self_eq_true, h2]
        rfl
      · simp only [List.modify_zero_cons]
        unfold findA
        simp only [hd, beq_self_eq_true]
        rfl
    · have hkb : (d == k) = false := by simpa using hk
      refine ⟨fun hn => ?_, fun hm => ?_⟩
      · unfold findA
        rw [hs, hkb]
        exact r1 (fun hh => hn (List.mem_cons_of_mem _ hh))
      · obtain ⟨j, hj, q1, q2⟩ := r2 (by rcases List.mem_cons.1 hm with h | h; exact absurd h hk; exact h)
        refine ⟨j + 1, by simpa using hj, ?_, fun x => ?_⟩
        · unfold findA
          rw [hs, hkb]
          simp only
          rw [q1]
          congr 3
          omega
        · rw [List.modify_succ_cons]
          unfold findA
          rw [hs, hkb]
          simp only
          rw [q2 x]
          congr 3
          omega
theorem Ones.snoc {es : List AE} {ks : List Int} {k : Int} {c : Nat} (h : Ones es ks) : Ones (es ++ [{ key := .int .i64 k, val := .lit (.int .i64 1), born := c }]) (ks ++ [k]) := by
  unfold Ones at *
  rw [List.map_append, List.map_append, h]
  rfl
section
variable {P : Program} {T : TT} {t : TM} {h : AH} {d : Option Tmp} {ty e : TypeId} {ps : String} {af : Array Edge} {g : Option (Nat × Bool)}
theorem a_mkm : aop P T ⟨d, .makeMap e none, ty, ps, af, g⟩ t h = some (.val (.mp h.n), h.push (.map [] 0)) := rfl
theorem a_look {m k : Operand} {ok : Bool} : aop P T ⟨d, .lookup e m k ok, ty, ps, af, g⟩ t h = aLookup T t h e m k ok := rfl
theorem a_mupd {m k x : Operand} : aop P T ⟨d, .mapUpdate e m k x, ty, ps, af, g⟩ t h = aUpdate T t h e m k x := rfl
end
section
variable {T : TT} {t kt et : TypeId} {h : AH} {b : Nat} {es : List AE} {c : Nat} {ks : List Int} {d : Int}
theorem findT_int (hu : und T t = some (.map kt et)) (hi : und T kt = some (.int .i64)) : findT T t (.int .i64 d) es = findA (.int .i64) (.int .i64 d) es 0 := by
  unfold findT
  rw [hu]
  simp only
  unfold und at hi
  cases hT : T kt with
  | none => rw [hT] at hi; cases hi
  | some i =>
    rw [hT] at hi
    simp only [Option.map_some, Option.some.injEq] at hi
    simp only [hi]
    rfl
theorem look_new (hu : und T t = some (.map kt et)) (hi : und T kt = some (.int .i64)) (hz : zeroT T et = some (.lit (.int .i64 0))) (hb : h.at b = some (.map es c)) (ho : Ones es ks) (hd : d ∉ ks) :
    lookupA T h t (.mp b) (.lit (.int .i64 d)) false = some (.lit (.int .i64 0)) := by
  unfold lookupA
  simp only [keyOf, entsA, hb, elemT, hu, findT_int hu hi, (findA_int d ks es 0 ho).1 hd, hz]
  rfl
theorem look_old (hu : und T t = some (.map kt et)) (hi : und T kt = some (.int .i64)) (hz : zeroT T et = some (.lit (.int .i64 0))) (hb : h.at b = some (.map es c)) (ho : Ones es ks) (hd : d ∈ ks) :
    lookupA T h t (.mp b) (.lit (.int .i64 d)) false = some (.lit (.int .i64 1)) := by
  obtain ⟨j, hj, q1, q2⟩ := (findA_int d ks es 0 ho).2 hd
  unfold lookupA
  simp only [keyOf, entsA, hb, elemT, hu, findT_int hu hi, q1, hz]
  rfl
theorem upd_new {x : AV} (hu : und T t = some (.map kt et)) (hi : und T kt = some (.int .i64)) (hb : h.at b = some (.map es c)) (ho : Ones es ks) (hd : d ∉ ks) :
    updateA T h t (.mp b) (.lit (.int .i64 d)) x = some (h.put b (.map (es ++ [{ key := .int .i64 d, val := x, born := c }]) (c + 1))) := by
  unfold updateA
  simp only [keyOf, hb, findT_int hu hi, (findA_int d ks es 0 ho).1 hd]
theorem upd_old {x : AV} (hu : und T t = some (.map kt et)) (hi : und T kt = some (.int .i64)) (hz : zeroT T et = some (.lit (.int .i64 0))) (hb : h.at b = some (.map es c)) (ho : Ones es ks) (hd : d ∈ ks) :
    ∃ es', updateA T h t (.mp b) (.lit (.int .i64 d)) x = some (h.put b (.map es' c)) ∧ ∀ h', h'.at b = some (.map es' c) → lookupA T h' t (.mp b) (.lit (.int .i64 d)) false = some x := by
  obtain ⟨j, hj, q1, q2⟩ := (findA_int d ks es 0 ho).2 hd
  refine ⟨es.modify (0 + j) fun e => { e with key := .int .i64 d, val := x }, ?_, fun h' hb' => ?_⟩
  · unfold updateA
    simp only [keyOf, hb, findT_int hu hi, q1]
  · unfold lookupA
    rw [Nat.zero_add] at hb'
    simp only [keyOf, entsA, hb', elemT, hu, findT_int hu hi, q2 x, hz]
    rfl
/-- What a new key gives, and the next look. -/
theorem look_put {cc : Nat} (hu : und T t = some (.map kt et)) (hi : und T kt = some (.int .i64)) (hz : zeroT T et = some (.lit (.int .i64 0))) (ho : Ones es ks) (hb : h.at b = some (.map (es ++ [{ key := .int .i64 d, val := .lit (.int .i64 1), born := c }]) cc)) :
    lookupA T h t (.mp b) (.lit (.int .i64 d)) false = some (.lit (.int .i64 1)) :=
  look_old hu hi hz hb ho.snoc (List.mem_append.2 (.inr (List.mem_cons_self ..)))
end
end Go.Proofs.Ytkgbeihcepociaa.Ex
end

section

set_option linter.unusedSimpArgs false
set_option linter.unusedVariables false
set_option maxRecDepth 10000
set_option maxHeartbeats 4000000
namespace Go.Proofs.Ytkgbeihcepociaa.Ex
open Go
def itemC (m : MapD) (its : List Int) (b : BktD) (k : Nat) : Bool := !((its ++ b.items.take k).contains (b.items.getD k 0)) && fitF m b (b.items.getD k 0) && wOk (b.weights.getD k 0)
def bC (m : MapD) (i : Nat) (b : BktD) : Bool := hdOk m i b && (List.range b.items.length).all (itemC m (itsTo m i) b)
def checkF (m : MapD) : Bool := decide (0 ≤ m.leaf) && decide (m.leaf ≤ 3) && (List.range m.buckets.length).all (fun i => bC m i (m.buckets.getD i bkt0))
theorem check_false {m : MapD} {i : Nat} {x : BktD} (hx : m.buckets[i]? = some x) (h : bC m i x = false) : checkF m = false := by
  unfold checkF
  rw [range_all_false (i := i) (List.getElem?_eq_some_iff.1 hx).1 (by simp only [getD_of hx]; exact h), Bool.and_false]
def errC (m : MapD) : Int := if checkF m then 0 else 22
theorem check_x {F : Nat → Prop} {H : AH} {m : MapD} {vo vp vb : AV} (hm : MpAt F H m vo vp vb) (hok : OkM m) :
    WC Try.prog (tabOf Try.prog NT0) S0 146 [mpV m vo vp vb] H fun r h' => Ext H.n H h' ∧ r = .lit (.int .i64 (errC m)) := by
  refine WC_fn Try.func146 rfl rfl ?_
  obtain ⟨hl, hbs, hit⟩ := hok
  have hl0 := hl
  unfold Sm at hl
  have s1 := hm.b.isSl
  have s2 := hm.b.lenD
  have o1 := hm.o.one
  have o2 := hm.p.one
  have o3 := hm.b.one
  have hcap : CapOk 4 vb := by obtain ⟨L, -, -, hc, -⟩ := hm.b.out; exact hc
  have EP : ∀ x, Ext H.n H (H.push x) := fun x => (Ext.refl _ _).push _ (Nat.le_refl _)
  have hbad0 : ∀ h', Ext H.n H h' → checkF m = false → Ext H.n H h' ∧ AV.lit (.int .i64 22) = .lit (.int .i64 (errC m)) := fun h' e hf => ⟨e, by unfold errC; rw [hf]; rfl⟩
  simp only [core, Nat.reduceAdd, Nat.reduceSub, Nat.reduceMul, Nat.reduceLT, Nat.reduceEqDiff, reduceCtorEq, Nat.reduceLeDiff, Int.reduceLE, Int.reduceLT, Int.reduceToNat, Try.ntmps146, mpV, o1, o2, o3]
  by_cases hl1 : m.leaf < 0
  · simp only [core, Nat.reduceAdd, Nat.reduceSub, Nat.reduceMul, Nat.reduceLT, Nat.reduceEqDiff, reduceCtorEq, Nat.reduceLeDiff, Int.reduceLE, Int.reduceLT, Int.reduceToNat, hl1]
    refine hbad0 _ (EP _) ?_
    unfold checkF
    rw [decide_eq_false (show ¬ 0 ≤ m.leaf by omega)]
    rfl
  by_cases hl2 : 3 < m.leaf
  · simp only [core, Nat.reduceAdd, Nat.reduceSub, Nat.reduceMul, Nat.reduceLT, Nat.reduceEqDiff, reduceCtorEq, Nat.reduceLeDiff, Int.reduceLE, Int.reduceLT, Int.reduceToNat, hl1, hl2]
    refine hbad0 _ (EP _) ?_
    unfold checkF
    rw [decide_eq_false (show ¬ m.leaf ≤ 3 by omega), Bool.and_false]
    rfl
  have hg0 : checkF m = (List.range m.buckets.length).all (fun i => bC m i (m.buckets.getD i bkt0)) := by
    unfold checkF
    rw [decide_eq_true (show 0 ≤ m.leaf by omega), decide_eq_true (show m.leaf ≤ 3 by omega)]
    rfl
  simp only [core, Nat.reduceAdd, Nat.reduceSub, Nat.reduceMul, Nat.reduceLT, Nat.reduceEqDiff, reduceCtorEq, Nat.reduceLeDiff, Int.reduceLE, Int.reduceLT, Int.reduceToNat, a_mkm, hl1, hl2, s1, s2]
  obtain ⟨h1, hh1⟩ : ∃ h1, h1 = (H.push (.cells [.lit (.int .i64 m.epoch), vo, vp, vb, .lit (.int .i64 m.leaf)] 31)).push (.map [] 0) := ⟨_, rfl⟩
  have E0 : Ext H.n H h1 := hh1 ▸ (EP _).push _ (by rw [n_push]; omega)
  have A0 : h1.at H.n = some (.cells [.lit (.int .i64 m.epoch), vo, vp, vb, .lit (.int .i64 m.leaf)] 31) := by
    rw [hh1, at_push_lt _ (by rw [n_push]; omega)]
    exact at_push_n _ _
  have M0 : h1.at (H.n + 1) = some (.map [] 0) := by
    rw [hh1]
    have := at_push_n (H.push (.cells [.lit (.int .i64 m.epoch), vo, vp, vb, .lit (.int .i64 m.leaf)] 31)) (.map [] 0)
    rw [n_push] at this
    exact this
  have n1 : h1.n = H.n + 2 := by rw [hh1, n_push, n_push]
  rw [← hh1]
  clear hh1
  refine WB_for m.buckets.length (fun i t h => ∃ es c, h.at (H.n + 1) = some (.map es c) ∧ Ones es (itsTo m i) ∧ Ext H.n H h ∧ h.at H.n = some (.cells [.lit (.int .i64 m.epoch), vo, vp, vb, .lit (.int .i64 m.leaf)] 31) ∧ (List.range i).all (fun i => bC m i (m.buckets.getD i bkt0)) = true ∧ t.n = 105 ∧ t.get 1 = .ptr H.n 0 ∧ t.get 3 = .mp (H.n + 1) ∧ t.get 20 = vb ∧ t.get 21 = .lit (.int .i64 m.buckets.length) ∧ t.get 22 = .lit (.int .i64 i)) ?_ ?_ _ _ ?_
  · rintro i t h hlt hc ⟨es, cl, M1, ho, E1, A1, hall, hn, g1, g3, g20, g21, g22⟩ ih
    obtain ⟨x, hx⟩ : ∃ x, m.buckets[i]? = some x := ⟨_, List.getElem?_eq_getElem hlt⟩
    obtain ⟨c, hc1, hld, hld0⟩ := hm.b.atE (T := tabOf Try.prog NT0) E1 RBkt_z hx
    obtain ⟨va, vw, rfl, ha, hw, i1, i2⟩ := RBkt_is.1 hc1
    obtain ⟨k1, k2⟩ := hbs x (List.mem_of_getElem? hx)
    unfold Sm at k1 k2
    have a1 := ha.one
    have w1 := hw.one
    have a2 := ha.isSl
    have w2 := hw.isSl
    have a3 := ha.lenD
    have w3 := hw.lenD
    have hws := wrap_succ hlt (by omega)
    have l1 : H.n < h.n := at_lt A1
    have lm : H.n + 1 < h.n := at_lt M1
    have LA1 := ld_at (T := tabOf Try.prog NT0) A1
    have hno : i ≤ m.buckets.length := by omega
    have hno2 : (i : Int) ≤ (m.buckets.length : Int) := by omega
    have hsub : IsSl RBkt F H (subSl 4 0 i vb) (m.buckets.take i) := by have := hm.b.sub (l := 0) (r := i) (by omega) hno; rw [List.drop_zero] at this; exact this
    have s3 := hsub.isSl
    have s4 : lenD (subSl 4 0 i vb) = i := by rw [hsub.lenD, List.length_take]; omega
    have hbk : bC m i x = (hdOk m i x && (List.range x.items.length).all (itemC m (itsTo m i) x)) := rfl
    have hbad : ∀ h', Ext H.n H h' → bC m i x = false → Ext H.n H h' ∧ AV.lit (.int .i64 22) = .lit (.int .i64 (errC m)) := fun h' e hf => hbad0 _ e (check_false hx hf)
    obtain ⟨hA, hhA⟩ : ∃ hA, hA = h.push (.cells [.lit (.int .i64 x.id), .lit (.int .i64 x.kind), va, vw] 92) := ⟨_, rfl⟩
    have EA : Ext h.n h hA := hhA ▸ (Ext.refl _ _).push _ (Nat.le_refl _)
    have PA : hA.at h.n = some (.cells [.lit (.int .i64 x.id), .lit (.int .i64 x.kind), va, vw] 92) := hhA ▸ at_push_n h _
    have AA := (EA.2 _ l1).trans A1
    have LAA := ld_at (T := tabOf Try.prog NT0) AA
    have lA := at_lt AA
    have LPA := ld_at (T := tabOf Try.prog NT0) PA
    have lPA := at_lt PA
    have EHA := E1.step EA
    by_cases c1 : 0 ≤ x.id
    · simp only [core, Nat.reduceAdd, Nat.reduceSub, Nat.reduceMul, Nat.reduceLT, Nat.reduceEqDiff, reduceCtorEq, Nat.reduceLeDiff, Int.reduceLE, Int.reduceLT, Int.reduceToNat, s1, s2, hn, g1, g3, g20, g21, g22, hlt, hc, hld, hld0, a1, w1, ← hhA, LPA, lPA, c1]
      refine hbad _ EHA ?_
      rw [hbk]; unfold hdOk
      rw [decide_eq_false (show ¬ x.id < 0 by omega)]; simp
    by_cases c2 : x.kind < 1
    · simp only [core, Nat.reduceAdd, Nat.reduceSub, Nat.reduceMul, Nat.reduceLT, Nat.reduceEqDiff, reduceCtorEq, Nat.reduceLeDiff, Int.reduceLE, Int.reduceLT, Int.reduceToNat, s1, s2, hn, g1, g3, g20, g21, g22, hlt, hc, hld, hld0, a1, w1, ← hhA, LPA, lPA, c1, c2]
      refine hbad _ EHA ?_
      rw [hbk]; unfold hdOk
      rw [decide_eq_false (show ¬ 1 ≤ x.kind by omega)]; simp
    by_cases c3 : 3 < x.kind
    · simp only [core, Nat.reduceAdd, Nat.reduceSub, Nat.reduceMul, Nat.reduceLT, Nat.reduceEqDiff, reduceCtorEq, Nat.reduceLeDiff, Int.reduceLE, Int.reduceLT, Int.reduceToNat, s1, s2, hn, g1, g3, g20, g21, g22, hlt, hc, hld, hld0, a1, w1, ← hhA, LPA, lPA, c1, c2, c3]
      refine hbad _ EHA ?_
      rw [hbk]; unfold hdOk
      rw [decide_eq_false (show ¬ x.kind ≤ 3 by omega)]; simp
    simp only [core, Nat.reduceAdd, Nat.reduceSub, Nat.reduceMul, Nat.reduceLT, Nat.reduceEqDiff, reduceCtorEq, Nat.reduceLeDiff, Int.reduceLE, Int.reduceLT, Int.reduceToNat, s1, s2, hn, g1, g3, g20, g21, g22, hlt, hc, hld, hld0, a1, w1, ← hhA, LPA, lPA, c1, c2, c3, a2, w2, a3, w3]
    refine ⟨fun hq => ?_, fun hq => ?_⟩
    · refine hbad _ EHA ?_
      rw [hbk]; unfold hdOk
      have : ¬ x.items.length = x.weights.length := by simp at hq; omega
      simp [this]
    have hlen : x.items.length = x.weights.length := by simp at hq; omega
    simp only [core, Nat.reduceAdd, Nat.reduceSub, Nat.reduceMul, Nat.reduceLT, Nat.reduceEqDiff, reduceCtorEq, Nat.reduceLeDiff, Int.reduceLE, Int.reduceLT, Int.reduceToNat, s1, s2, hn, g1, g3, g20, g21, g22, LAA, lA, hcap, hno, hno2, s3, s4]
    have MA : hA.at (H.n + 1) = some (.map es cl) := (EA.2 _ lm).trans M1
    refine WB_for i (fun j t h' => Ext hA.n hA h' ∧ (m.buckets.take j).any (fun c => c.id == x.id) = false ∧ t.n = 105 ∧ t.get 1 = .ptr H.n 0 ∧ t.get 3 = .mp (H.n + 1) ∧ t.get 4 = .lit (.int .i64 i) ∧ t.get 5 = .ptr h.n 0 ∧ t.get 20 = vb ∧ t.get 21 = .lit (.int .i64 m.buckets.length) ∧ t.get 22 = .lit (.int .i64 i) ∧ t.get 52 = subSl 4 0 i vb ∧ t.get 53 = .lit (.int .i64 i) ∧ t.get 54 = .lit (.int .i64 j)) ?_ ?_ _ _ ?_
    · rintro j t h' hj hc ⟨he2, hany, hn, g1, g3, g4, g5, g20, g21, g22, g52, g53, g54⟩ ih2
      have hjl : j < m.buckets.length := by omega
      obtain ⟨y, hy⟩ : ∃ y, m.buckets[j]? = some y := ⟨_, List.getElem?_eq_getElem hjl⟩
      have hy2 : (m.buckets.take i)[j]? = some y := by rw [List.getElem?_take, if_pos hj, hy]
      have E2 : Ext H.n H h' := EHA.step he2
      obtain ⟨c, hc1, hld, hld0⟩ := hsub.atE (T := tabOf Try.prog NT0) E2 RBkt_z hy2
      obtain ⟨ya, yw, rfl, ya1, yw1, -, -⟩ := RBkt_is.1 hc1
      have y1 := ya1.one
      have y2 := yw1.one
      have hws := wrap_succ hj (by omega)
      have P2 := (he2.2 _ lPA).trans PA
      have LP2 := ld_at (T := tabOf Try.prog NT0) P2
      have l2 : h.n < h'.n := at_lt P2
      simp only [core, Nat.reduceAdd, Nat.reduceSub, Nat.reduceMul, Nat.reduceLT, Nat.reduceEqDiff, reduceCtorEq, Nat.reduceLeDiff, Int.reduceLE, Int.reduceLT, Int.reduceToNat, s1, s2, s3, s4, hn, g1, g3, g4, g5, g20, g21, g22, g52, g53, g54, hj, hc, hld, hld0, hws, y1, y2, LP2, l2]
      refine ⟨fun hq => ?_, fun hq => ?_⟩
      · refine hbad _ (E2.push _ E2.1) ?_
        rw [hbk]
        unfold hdOk
        rw [any_true' hy2 hq]
        rfl
      · refine ih2 _ _ ⟨he2.push _ he2.1, ?_, ?_⟩
        · rw [any_take hy, hany]
          simpa using hq
        · simp only [core, Nat.reduceAdd, Nat.reduceSub, Nat.reduceMul, Nat.reduceLT, Nat.reduceEqDiff, reduceCtorEq, Nat.reduceLeDiff, Int.reduceLE, Int.reduceLT, Int.reduceToNat, hn, g1, g3, g4, g5, g20, g21, g22, g52, g53, g54]
    · rintro t h' hc ⟨he2, hany, hn, g1, g3, g4, g5, g20, g21, g22, g52, g53, g54⟩
      have E2 : Ext H.n H h' := EHA.step he2
      have P2 := (he2.2 _ lPA).trans PA
      have LP2 := ld_at (T := tabOf Try.prog NT0) P2
      have l2 : h.n < h'.n := at_lt P2
      have A2 := (he2.2 _ lA).trans AA
      have M2 := (he2.2 _ (at_lt MA)).trans MA
      have hhd : hdOk m i x = true := by
        unfold hdOk
        rw [hany, decide_eq_true (show x.id < 0 by omega), decide_eq_true (show 1 ≤ x.kind by omega), decide_eq_true (show x.kind ≤ 3 by omega)]
        simp [hlen]
      rw [hhd, Bool.true_and] at hbk
      simp only [core, Nat.reduceAdd, Nat.reduceSub, Nat.reduceMul, Nat.reduceLT, Nat.reduceEqDiff, reduceCtorEq, Nat.reduceLeDiff, Int.reduceLE, Int.reduceLT, Int.reduceToNat, s1, s2, s3, s4, hn, g1, g3, g4, g5, g20, g21, g22, g52, g53, g54, hc, LP2, l2, a2, a3]
      refine WB_for x.items.length (fun k t h3 => ∃ es c, h3.at (H.n + 1) = some (.map es c) ∧ Ones es (itsTo m i ++ x.items.take k) ∧ Ext H.n H h3 ∧ h3.at H.n = some (.cells [.lit (.int .i64 m.epoch), vo, vp, vb, .lit (.int .i64 m.leaf)] 31) ∧ h3.at h.n = some (.cells [.lit (.int .i64 x.id), .lit (.int .i64 x.kind), va, vw] 92) ∧ (List.range k).all (itemC m (itsTo m i) x) = true ∧ t.n = 105 ∧ t.get 1 = .ptr H.n 0 ∧ t.get 3 = .mp (H.n + 1) ∧ t.get 5 = .ptr h.n 0 ∧ t.get 20 = vb ∧ t.get 21 = .lit (.int .i64 m.buckets.length) ∧ t.get 22 = .lit (.int .i64 i) ∧ t.get 65 = va ∧ t.get 66 = .lit (.int .i64 x.items.length) ∧ t.get 67 = .lit (.int .i64 k)) ?_ ?_ _ _ ?_
      · rintro k t h3 hk hc ⟨es, cl, M3, ho3, E3, A3, P3, hkall, hn, g1, g3, g5, g20, g21, g22, g65, g66, g67⟩ ih4
        have hlda := (ha.ext E3 (Nat.le_refl _)).int (T := tabOf Try.prog NT0) (e := 3) (by kernel_rfl) (by kernel_rfl) hk
        have hws := wrap_succ hk (by omega)
        have lm3 := at_lt M3
        have l3 := at_lt A3
        have lp3 := at_lt P3
        obtain ⟨d, hd⟩ : ∃ d, d = x.items.getD k 0 := ⟨_, rfl⟩
        have hu : und (tabOf Try.prog NT0) 225 = some (.map 3 3) := by kernel_rfl
        have hi : und (tabOf Try.prog NT0) 3 = some (.int .i64) := by kernel_rfl
        have hz : zeroT (tabOf Try.prog NT0) 3 = some (.lit (.int .i64 0)) := by kernel_rfl
        have w01 : IntKind.i64.wrap (0 + 1) = 1 := by decide
        have w11 : IntKind.i64.wrap (1 + 1) = 2 := by decide
        rw [← hd] at hlda
        by_cases hmem : d ∈ itsTo m i ++ x.items.take k
        · have hL := look_old hu hi hz M3 ho3 hmem
          obtain ⟨es', hU, hL2⟩ := upd_old (x := .lit (.int .i64 2)) hu hi hz M3 ho3 hmem
          obtain ⟨h4, hh4⟩ : ∃ h4, h4 = h3.put (H.n + 1) (.map es' cl) := ⟨_, rfl⟩
          have E4 : Ext H.n H h4 := hh4 ▸ E3.put _ (by omega)
          have hL4 := hL2 h4 (by rw [hh4]; exact at_put_same _ lm3)
          rw [← hh4] at hU
          simp only [core, Nat.reduceAdd, Nat.reduceSub, Nat.reduceMul, Nat.reduceLT, Nat.reduceEqDiff, reduceCtorEq, Nat.reduceLeDiff, Int.reduceLE, Int.reduceLT, Int.reduceToNat, hn, g1, g3, g5, g20, g21, g22, g65, g66, g67, hc, hk, hlda, a2, a3, a_look, aLookup, a_mupd, aUpdate, hL, hU, hL4, w11]
          refine hbad _ E4 ?_
          rw [hbk, range_all_false hk ?_]
          unfold itemC
          rw [← hd, List.contains_iff_mem.2 hmem]
          rfl
        have hL := look_new hu hi hz M3 ho3 hmem
        have hU := upd_new (x := .lit (.int .i64 1)) hu hi M3 ho3 hmem
        obtain ⟨h4, hh4⟩ : ∃ h4, h4 = h3.put (H.n + 1) (.map (es ++ [{ key := .int .i64 d, val := .lit (.int .i64 1), born := cl }]) (cl + 1)) := ⟨_, rfl⟩
        have E4 : Ext H.n H h4 := hh4 ▸ E3.put _ (by omega)
        have M4 : h4.at (H.n + 1) = some (.map (es ++ [{ key := .int .i64 d, val := .lit (.int .i64 1), born := cl }]) (cl + 1)) := by rw [hh4]; exact at_put_same _ lm3
        have hL4 := look_put hu hi hz ho3 M4
        rw [← hh4] at hU
        have hne : H.n + 1 ≠ h.n := by omega
        have A4 := A3
        rw [← at_put_ne (.map (es ++ [{ key := .int .i64 d, val := .lit (.int .i64 1), born := cl }]) (cl + 1)) (show H.n + 1 ≠ H.n by omega), ← hh4] at A4
        have P4 := P3
        rw [← at_put_ne (.map (es ++ [{ key := .int .i64 d, val := .lit (.int .i64 1), born := cl }]) (cl + 1)) hne, ← hh4] at P4
        have l4 := at_lt A4
        have lp4 := at_lt P4
        have LA4 := ld_at (T := tabOf Try.prog NT0) A4
        have LP4 := ld_at (T := tabOf Try.prog NT0) P4
        simp only [core, Nat.reduceAdd, Nat.reduceSub, Nat.reduceMul, Nat.reduceLT, Nat.reduceEqDiff, reduceCtorEq, Nat.reduceLeDiff, Int.reduceLE, Int.reduceLT, Int.reduceToNat, hn, g1, g3, g5, g20, g21, g22, g65, g66, g67, hc, hk, hlda, a2, a3, a_look, aLookup, a_mupd, aUpdate, hL, hU, hL4, w01, LA4, l4, LP4, lp4]
        refine (may_x (b := x) d (hm.ext E4 (Nat.le_refl _)) hl0 hbs a1 w1).mono ?_
        rintro _ h5 ⟨e5, rfl⟩
        have E5 := E4.step e5
        have A5 := (e5.2 _ l4).trans A4
        have P5 := (e5.2 _ lp4).trans P4
        have M5 := (e5.2 _ (at_lt M4)).trans M4
        have lp5 := at_lt P5
        have LP5 := ld_at (T := tabOf Try.prog NT0) P5
        have hcon : (itsTo m i ++ x.items.take k).contains d = false := by
          cases hcc : (itsTo m i ++ x.items.take k).contains d with
          | false => rfl
          | true => exact absurd (List.contains_iff_mem.1 hcc) hmem
        have hit : itemC m (itsTo m i) x k = (fitF m x d && wOk (x.weights.getD k 0)) := by
          unfold itemC
          rw [← hd, hcon]
          rfl
        cases hfit : fitF m x d with
        | false =>
          simp only [core, Nat.reduceAdd, Nat.reduceSub, Nat.reduceMul, Nat.reduceLT, Nat.reduceEqDiff, reduceCtorEq, Nat.reduceLeDiff, Int.reduceLE, Int.reduceLT, Int.reduceToNat, hn, g1, g3, g5, g20, g21, g22, g65, g66, g67]
          refine hbad _ E5 ?_
          rw [hbk, range_all_false hk (by rw [hit, hfit]; rfl)]
        | true =>
        rw [hfit, Bool.true_and] at hit
        have hkw : k < x.weights.length := by omega
        have hldw := (hw.ext E5 (Nat.le_refl _)).int (T := tabOf Try.prog NT0) (e := 3) (by kernel_rfl) (by kernel_rfl) hkw
        by_cases d1 : x.weights.getD k 0 < 0
        · simp only [core, Nat.reduceAdd, Nat.reduceSub, Nat.reduceMul, Nat.reduceLT, Nat.reduceEqDiff, reduceCtorEq, Nat.reduceLeDiff, Int.reduceLE, Int.reduceLT, Int.reduceToNat, hn, g1, g3, g5, g20, g21, g22, g65, g66, g67, LP5, lp5, w2, w3, hkw, hldw, d1]
          refine hbad _ E5 ?_
          rw [hbk, range_all_false hk (by rw [hit]; unfold wOk; rw [decide_eq_false (by omega)]; rfl)]
        by_cases d2 : 1048576 < x.weights.getD k 0
        · simp only [core, Nat.reduceAdd, Nat.reduceSub, Nat.reduceMul, Nat.reduceLT, Nat.reduceEqDiff, reduceCtorEq, Nat.reduceLeDiff, Int.reduceLE, Int.reduceLT, Int.reduceToNat, hn, g1, g3, g5, g20, g21, g22, g65, g66, g67, LP5, lp5, w2, w3, hkw, hldw, d1, d2]
          refine hbad _ E5 ?_
          rw [hbk, range_all_false hk (by rw [hit]; unfold wOk; rw [decide_eq_false (show ¬ x.weights.getD k 0 ≤ 1048576 by omega), Bool.and_false])]
        simp only [core, Nat.reduceAdd, Nat.reduceSub, Nat.reduceMul, Nat.reduceLT, Nat.reduceEqDiff, reduceCtorEq, Nat.reduceLeDiff, Int.reduceLE, Int.reduceLT, Int.reduceToNat, hn, g1, g3, g5, g20, g21, g22, g65, g66, g67, LP5, lp5, w2, w3, hkw, hldw, d1, d2, hws]
        refine ih4 _ _ ⟨_, _, M5, ?_, E5, A5, P5, ?_, ?_⟩
        · rw [List.take_add_one, getD_some' 0 hk, ← hd]
          simpa using ho3.snoc (k := d)
        · rw [range_all_succ, hkall, hit]
          unfold wOk
          rw [decide_eq_true (show 0 ≤ x.weights.getD k 0 by omega), decide_eq_true (show x.weights.getD k 0 ≤ 1048576 by omega)]
          rfl
        · simp only [core, Nat.reduceAdd, Nat.reduceSub, Nat.reduceMul, Nat.reduceLT, Nat.reduceEqDiff, reduceCtorEq, Nat.reduceLeDiff, Int.reduceLE, Int.reduceLT, Int.reduceToNat, hn, g1, g3, g5, g20, g21, g22, g65, g66, g67]
      · rintro t h3 hc ⟨es, cl, M3, ho3, E3, A3, P3, hkall, hn, g1, g3, g5, g20, g21, g22, g65, g66, g67⟩
        rw [List.take_length] at ho3
        simp only [core, Nat.reduceAdd, Nat.reduceSub, Nat.reduceMul, Nat.reduceLT, Nat.reduceEqDiff, reduceCtorEq, Nat.reduceLeDiff, Int.reduceLE, Int.reduceLT, Int.reduceToNat, hn, g1, g3, g5, g20, g21, g22, g65, g66, g67, hc, hws]
        refine ih _ _ ⟨es, cl, M3, ?_, E3, A3, ?_, ?_⟩
        · rw [itsTo_succ hx]; exact ho3
        · rw [range_all_succ, hall, getD_of hx, hbk, hkall]; rfl
        · simp only [core, Nat.reduceAdd, Nat.reduceSub, Nat.reduceMul, Nat.reduceLT, Nat.reduceEqDiff, reduceCtorEq, Nat.reduceLeDiff, Int.reduceLE, Int.reduceLT, Int.reduceToNat, hn, g1, g3, g5, g20, g21, g22, g65, g66, g67]
      · refine ⟨_, _, M2, ?_, E2, A2, P2, rfl, ?_⟩
        · rw [List.take_zero, List.append_nil]; exact ho
        · simp only [core, Nat.reduceAdd, Nat.reduceSub, Nat.reduceMul, Nat.reduceLT, Nat.reduceEqDiff, reduceCtorEq, Nat.reduceLeDiff, Int.reduceLE, Int.reduceLT, Int.reduceToNat, hn, g1, g3, g4, g5, g20, g21, g22, g52, g53, g54]
          (repeat' apply And.intro) <;> first | rfl | trivial
    · simp only [core, Nat.reduceAdd, Nat.reduceSub, Nat.reduceMul, Nat.reduceLT, Nat.reduceEqDiff, reduceCtorEq, Nat.reduceLeDiff, Int.reduceLE, Int.reduceLT, Int.reduceToNat, hn, g1, g3, g20, g21, g22]
      refine ⟨Ext.refl _ _, rfl, ?_⟩
      (repeat' apply And.intro) <;> first | rfl | trivial
  · rintro t h hc ⟨es, cl, M1, ho, E1, A1, hall, hn, g1, g3, g20, g21, g22⟩
    simp only [core, Nat.reduceAdd, Nat.reduceSub, Nat.reduceMul, Nat.reduceLT, Nat.reduceEqDiff, reduceCtorEq, Nat.reduceLeDiff, Int.reduceLE, Int.reduceLT, Int.reduceToNat, s1, s2, hn, g1, g3, g20, g21, g22, hc]
    exact ⟨E1, by unfold errC; rw [hg0, hall]; rfl⟩
  · refine ⟨_, _, M0, rfl, E0, A0, rfl, ?_⟩
    simp only [core, Nat.reduceAdd, Nat.reduceSub, Nat.reduceMul, Nat.reduceLT, Nat.reduceEqDiff, reduceCtorEq, Nat.reduceLeDiff, Int.reduceLE, Int.reduceLT, Int.reduceToNat]
    (repeat' apply And.intro) <;> first | rfl | trivial
end Go.Proofs.Ytkgbeihcepociaa.Ex
end

section

set_option linter.unusedSimpArgs false
set_option linter.unusedVariables false
set_option maxRecDepth 10000
set_option maxHeartbeats 4000000
namespace Go.Proofs.Ytkgbeihcepociaa.Ex
open Go
theorem wAll {l : List Int} : l.all wOk = (List.range l.length).all (fun k => wOk (l.getD k 0)) := by
  apply Bool.eq_iff_iff.2
  rw [List.all_eq_true, List.all_eq_true]
  constructor
  · intro h k hk
    exact h _ (List.mem_of_getElem? (getD_some' 0 (List.mem_range.1 hk)))
  · intro h y hy
    obtain ⟨j, hj, hjb⟩ := List.mem_iff_getElem.1 hy
    have := h j (List.mem_range.2 hj)
    rw [List.getD_eq_getElem?_getD, List.getElem?_eq_getElem hj, hjb] at this
    exact this
theorem fit_kind {m : MapD} {b : BktD} {d : Int} (hk : ∀ c ∈ m.buckets, 1 ≤ c.kind) (hb : 1 ≤ b.kind) : fitF m b d = (decide (0 ≤ kindF m d) && decide (kindF m d < b.kind)) := by
  unfold fitF kindF
  by_cases h0 : 0 ≤ d
  · rw [if_pos h0, if_pos h0]
    by_cases h8 : d < 8
    · rw [if_pos h8, decide_eq_true h8, decide_eq_true (show (0 : Int) < b.kind by omega)]
      rfl
    · rw [if_neg h8, decide_eq_false h8]
      rfl
  · rw [if_neg h0, if_neg h0]
    unfold bucketG
    cases hf : bucketF m d with
    | none => rfl
    | some c =>
      have := hk c (List.mem_of_find?_eq_some hf)
      simp only [Option.isSome_some, if_true, Option.getD_some, Bool.true_and]
      rw [decide_eq_true (show 0 ≤ c.kind by omega), Bool.true_and]
theorem hd_kind {m : MapD} {i : Nat} {b : BktD} (h : hdOk m i b = true) : 1 ≤ b.kind ∧ b.items.length = b.weights.length := by
  unfold hdOk at h
  simp only [Bool.and_eq_true, decide_eq_true_eq, beq_iff_eq] at h
  exact ⟨h.1.1.2, h.2⟩
theorem bC_bOk {m : MapD} {i : Nat} {b : BktD} (hk : ∀ c ∈ m.buckets, 1 ≤ c.kind) (h : hdOk m i b = true) : bC m i b = bOk m i b := by
  obtain ⟨h1, h2⟩ := hd_kind h
  unfold bC bOk
  rw [h, wAll, ← h2]
  apply Bool.eq_iff_iff.2
  simp only [Bool.true_and, Bool.and_eq_true, List.all_eq_true, List.mem_range]
  unfold itemC itemOk
  simp only [fit_kind hk h1, Bool.and_eq_true]
  constructor
  · intro h
    exact ⟨fun k hk => (h k hk).2, fun k hk => ⟨(h k hk).1.2, (h k hk).1.1⟩⟩
  · intro h k hk
    exact ⟨⟨(h.2 k hk).2, (h.2 k hk).1⟩, h.1 k hk⟩
theorem all_kind {m : MapD} {p : Nat → BktD → Bool} (hp : ∀ i b, p i b = true → hdOk m i b = true) (h : (List.range m.buckets.length).all (fun i => p i (m.buckets.getD i bkt0)) = true) : (∀ c ∈ m.buckets, 1 ≤ c.kind) ∧ ∀ i, i < m.buckets.length → hdOk m i (m.buckets.getD i bkt0) = true := by
  have h2 : ∀ i, i < m.buckets.length → hdOk m i (m.buckets.getD i bkt0) = true := fun i hi => hp _ _ (List.all_eq_true.1 h i (List.mem_range.2 hi))
  refine ⟨fun c hc => ?_, h2⟩
  obtain ⟨j, hj, hjb⟩ := List.mem_iff_getElem.1 hc
  have := (hd_kind (h2 j hj)).1
  rw [List.getD_eq_getElem?_getD, List.getElem?_eq_getElem hj, hjb] at this
  exact this
theorem check_good (m : MapD) : checkF m = goodF m := by
  unfold checkF goodF
  congr 1
  apply Bool.eq_iff_iff.2
  constructor
  · intro h
    obtain ⟨h1, h2⟩ := all_kind (p := bC m) (fun i b hb => by unfold bC at hb; simp only [Bool.and_eq_true] at hb; exact hb.1) h
    rw [List.all_eq_true] at *
    intro i hi
    rw [← bC_bOk h1 (h2 i (List.mem_range.1 hi))]
    exact h i hi
  · intro h
    obtain ⟨h1, h2⟩ := all_kind (p := bOk m) (fun i b hb => by unfold bOk at hb; simp only [Bool.and_eq_true] at hb; exact hb.1.1) h
    rw [List.all_eq_true] at *
    intro i hi
    rw [bC_bOk h1 (h2 i (List.mem_range.1 hi))]
    exact h i hi
end Go.Proofs.Ytkgbeihcepociaa.Ex
end

section

set_option linter.unusedSimpArgs false
set_option linter.unusedVariables false
set_option maxRecDepth 10000
set_option maxHeartbeats 4000000
namespace Go.Proofs.Ytkgbeihcepociaa.Ex
open Go
end Go.Proofs.Ytkgbeihcepociaa.Ex
end

section

set_option linter.unusedSimpArgs false
set_option linter.unusedVariables false
set_option maxRecDepth 10000
set_option maxHeartbeats 4000000
namespace Go.Proofs.Ytkgbeihcepociaa.Ex
open Go
end Go.Proofs.Ytkgbeihcepociaa.Ex
end

section

set_option linter.unusedSimpArgs false
set_option linter.unusedVariables false
set_option maxRecDepth 10000
set_option maxHeartbeats 8000000
namespace Go.Proofs.Ytkgbeihcepociaa.Ex
open Go
end Go.Proofs.Ytkgbeihcepociaa.Ex
end

section

set_option linter.unusedSimpArgs false
set_option linter.unusedVariables false
set_option maxRecDepth 10000
set_option maxHeartbeats 4000000
namespace Go.Proofs.Ytkgbeihcepociaa.Ex
open Go
end Go.Proofs.Ytkgbeihcepociaa.Ex
end

section

set_option linter.unusedSimpArgs false
set_option linter.unusedVariables false
namespace Go.Proofs.Ytkgbeihcepociaa.Ex
open Go
end Go.Proofs.Ytkgbeihcepociaa.Ex
end

section

set_option linter.unusedSimpArgs false
set_option linter.unusedVariables false
set_option maxRecDepth 10000
set_option maxHeartbeats 4000000
namespace Go.Proofs.Ytkgbeihcepociaa.Ex
open Go
theorem OwnL.low {α : Type} {R : Rep α} {n0 : Nat} {h : AH} {v : AV} {e : TypeId} {xs : List α} (ho : OwnL R (fun _ => False) n0 h v e xs) {b off n : Nat} {cap : Cap} (hv : v = .sl b off n cap) : n0 ≤ b ∧ b < h.n := by
  obtain ⟨L, h1, h2⟩ := ho
  rcases h1.2 with ⟨hh, _⟩ | ⟨p, hh, hp, hat⟩
  · rw [hh] at hv; cases hv
  · rw [hh] at hv; cases hv; exact ⟨hp, at_lt hat⟩
theorem OwnL.put {α : Type} {R : Rep α} {n0 : Nat} {h : AH} {v : AV} {e : TypeId} {xs : List α} (ho : OwnL R (fun _ => False) n0 h v e xs) {p : Nat} (hp : p < n0) (x : AB) : OwnL R (fun _ => False) n0 (h.put p x) v e xs :=
  ho.lift (fun b off n cap hv => at_put_ne x (by have := ho.low hv; omega)) (fun b hb => hb.elim)
end Go.Proofs.Ytkgbeihcepociaa.Ex
end

section

set_option linter.unusedSimpArgs false
set_option linter.unusedVariables false
set_option maxRecDepth 10000
set_option maxHeartbeats 4000000
namespace Go.Proofs.Ytkgbeihcepociaa.Ex
open Go
end Go.Proofs.Ytkgbeihcepociaa.Ex
end

section

set_option linter.unusedSimpArgs false
set_option linter.unusedVariables false
set_option maxRecDepth 10000
set_option maxHeartbeats 4000000
namespace Go.Proofs.Ytkgbeihcepociaa.Ex
open Go
end Go.Proofs.Ytkgbeihcepociaa.Ex
end

section

set_option linter.unusedSimpArgs false
set_option linter.unusedVariables false
set_option maxRecDepth 10000
set_option maxHeartbeats 4000000
namespace Go.Proofs.Ytkgbeihcepociaa.Ex
open Go
end Go.Proofs.Ytkgbeihcepociaa.Ex
end

section

set_option linter.unusedSimpArgs false
set_option linter.unusedVariables false
namespace Go.Proofs.Ytkgbeihcepociaa.Ex
open Go
/-- A row of cells. -/
def rowO (w : World) (r : Nat) : Option (List Value × TypeId) := match w.heap[r]? with
  | some (.cells cur e _) => some (cur.toList, e)
  | _ => none
theorem rowO_inv {w : World} {r : Nat} {l : List Value} {e : TypeId} (h : rowO w r = some (l, e)) : ∃ cur fz, w.heap[r]? = some (.cells cur e fz) ∧ l = cur.toList := by
  unfold rowO at h
  split at h
  · rename_i cur e' fz hh
    simp only [Option.some.injEq, Prod.mk.injEq] at h
    obtain ⟨rfl, rfl⟩ := h
    exact ⟨cur, fz, hh, rfl⟩
  · cases h
def winsAt (w : World) (r : Nat) : List (Nat × Nat) := match rowO w r with
  | some (l, _) => (List.range (l.length + 1)).map fun off => (r, off)
  | none => []
/-- All windows: a row from a place on. -/
def wins (w : World) : List (Nat × Nat) := (List.range w.heap.size).flatMap (winsAt w)
theorem mem_wins {w : World} {r off : Nat} : (r, off) ∈ wins w ↔ ∃ l e, rowO w r = some (l, e) ∧ off ≤ l.length := by
  unfold wins
  rw [List.mem_flatMap]
  constructor
  · rintro ⟨r', _, h⟩
    unfold winsAt at h
    split at h
    · rename_i l e hl
      obtain ⟨off', h1, h2⟩ := List.mem_map.1 h
      simp only [Prod.mk.injEq] at h2
      obtain ⟨rfl, rfl⟩ := h2
      rw [List.mem_range] at h1
      exact ⟨l, e, hl, by omega⟩
    · cases h
  · rintro ⟨l, e, hl, ho⟩
    refine ⟨r, ?_, ?_⟩
    · obtain ⟨cur, fz, hh, _⟩ := rowO_inv hl
      rw [List.mem_range]
      exact (Array.getElem?_eq_some_iff.1 hh).1
    · unfold winsAt
      rw [hl]
      exact List.mem_map.2 ⟨off, by rw [List.mem_range]; omega, rfl⟩
/-- A window's number. -/
def widx (w : World) (p : Nat × Nat) : Nat := (wins w).idxOf p + 1
def mu0 (w : World) : Mu := fun b => match b with
  | 0 => none
  | k + 1 => (wins w)[k]?
theorem mu0_widx {w : World} {p : Nat × Nat} (h : p ∈ wins w) : mu0 w (widx w p) = some p := by
  show (wins w)[(wins w).idxOf p]? = some p
  have hlt := List.idxOf_lt_length_of_mem h
  rw [List.getElem?_eq_getElem hlt, List.getElem_idxOf hlt]
instance (w : World) (p : Nat × Nat) : Decidable (p ∈ wins w) := inferInstance
def absV (w : World) : Value → AV
  | .pointer (some ⟨r, o, none⟩) => if (r, o) ∈ wins w then .ptr (widx w (r, o)) 0 else .any
  | .slice (some a) len cap => if len = 0 ∧ cap = 0 then .sl 0 0 0 (.kn 0) else match a with
    | ⟨r, o, none⟩ => if (r, o) ∈ wins w ∧ len ≤ cap ∧ cap ≤ maxLen then .sl (widx w (r, o)) 0 len (.kn cap) else .any
    | _ => .any
  | v => bif scal v then .lit v else .any
theorem absV_rel {ρ : Nat → Value} {w : World} {v : Value} (hv : v.oneCell' = true) : rel ρ (mu0 w) w (absV w v) v := by
  unfold absV
  split
  · rename_i r o
    split
    · rename_i hm
      unfold rel
      exact ⟨r, o, mu0_widx hm, rfl⟩
    · unfold rel; exact hv
  · rename_i a len cap
    split
    · rename_i h0
      obtain ⟨rfl, rfl⟩ := h0
      unfold rel
      exact .inr ⟨rfl, rfl, a, rfl⟩
    · split
      · rename_i r o
        split
        · rename_i hm
          unfold rel
          exact .inl ⟨r, o, o, cap, mu0_widx hm.1, rfl, .inr rfl, rfl, hm.2.1, hm.2.2⟩
        · unfold rel; exact hv
      · unfold rel; exact hv
  · cases hs : scal v with
    | false => simp only [cond_false]; unfold rel; exact hv
    | true => simp only [cond_true]; exact rel_lit hs
/-- A window's cells, as far as they are cells. -/
def absB (w : World) (p : Nat × Nat) : AB := match rowO w p.1 with
  | some (l, e) => .frz (((l.drop p.2).takeWhile (·.oneCell')).map (absV w)) e
  | none => .gone
def AH.ofList (l : List AB) : AH := l.foldl AH.push .nil
theorem L_foldl : ∀ (l : List AB) (h : AH), (l.foldl AH.push h).L = h.L ++ l
  | [], h => by simp
  | x :: r, h => by rw [List.foldl_cons, L_foldl r, L_push, List.append_assoc]; rfl
theorem L_ofList (l : List AB) : (AH.ofList l).L = l := by
  unfold AH.ofList
  rw [L_foldl]
  rfl
/-- The abstract heap of a world; block 0 is an empty row. -/
def absH (w : World) : AH := AH.ofList (.frz [] 0 :: (wins w).map (absB w))
theorem absH_L (w : World) : (absH w).L = .frz [] 0 :: (wins w).map (absB w) := L_ofList _
theorem absH_0 (w : World) : (absH w).at 0 = some (.frz [] 0) := by rw [← L_at, absH_L]; rfl
theorem absH_at {w : World} {p : Nat × Nat} (h : p ∈ wins w) : (absH w).at (widx w p) = some (absB w p) := by
  rw [← L_at, absH_L]
  have : (wins w)[(wins w).idxOf p]? = some p := mu0_widx h
  show ((wins w).map (absB w))[(wins w).idxOf p]? = _
  rw [List.getElem?_map, this]
  rfl
theorem absH_wr {w : World} {b : Nat} {ab : AB} (h : (absH w).L[b]? = some ab) : wr ab = false := by
  rw [absH_L] at h
  cases b with
  | zero => simp at h; subst h; rfl
  | succ k =>
    rw [List.getElem?_cons_succ, List.getElem?_map] at h
    obtain ⟨p, _, rfl⟩ := Option.map_eq_some_iff.1 h
    unfold absB
    split <;> rfl
theorem absH_nw (w : World) (b : Nat) (ab : AB) (h : (absH w).at b = some ab) : wr ab = false := absH_wr (by rw [L_at]; exact h)
theorem takeWhile_get {α : Type} {p : α → Bool} : ∀ {l : List α} {i : Nat} {x : α}, (l.takeWhile p)[i]? = some x → l[i]? = some x ∧ p x = true
  | [], i, x, h => by simp at h
  | a :: r, i, x, h => by
    rw [List.takeWhile_cons] at h
    cases ha : p a with
    | false => rw [ha] at h; simp at h
    | true =>
      rw [ha] at h
      cases i with
      | zero => simp at h; subst h; exact ⟨rfl, ha⟩
      | succ i => simp only [if_true, List.getElem?_cons_succ] at h ⊢; exact takeWhile_get h
theorem takeWhile_take {α : Type} {p : α → Bool} : ∀ {l : List α} {n : Nat}, (∀ x ∈ l.take n, p x = true) → (l.takeWhile p).take n = l.take n
  | [], n, _ => by simp
  | a :: r, 0, _ => by simp
  | a :: r, n + 1, h => by
    rw [List.takeWhile_cons, if_pos (h a (by simp)), List.take_succ_cons, List.take_succ_cons, takeWhile_take fun x hx => h x (by simp [hx])]
theorem absH_hr {P : Program} {ρ : Nat → Value} (w : World) (hpin : PinOf ρ (mu0 w) w := by intro r h; cases h) : HR P ρ w.heap.size (mu0 w) (absH w) w := by
  refine ⟨Nat.le_refl _, fun b x hb => ?_, fun b r base ab hb hx => ?_, fun b b' r base base' ab ab' h1 h2 h3 h4 h5 h6 => ?_, hpin⟩
  · rw [absH_L]
    cases b with
    | zero => cases hb
    | succ k =>
      have : k < (wins w).length := (List.getElem?_eq_some_iff.1 (show (wins w)[k]? = some x from hb)).1
      simp only [List.length_cons, List.length_map]
      omega
  · cases b with
    | zero => cases hb
    | succ k =>
      have hk : (wins w)[k]? = some (r, base) := hb
      rw [absH_L, List.getElem?_cons_succ, List.getElem?_map, hk] at hx
      simp only [Option.map_some, Option.some.injEq] at hx
      obtain ⟨l, e, hl, ho⟩ := mem_wins.1 (List.mem_of_getElem? hk)
      obtain ⟨cur, fz, hh, rfl⟩ := rowO_inv hl
      unfold absB at hx
      rw [hl] at hx
      simp only at hx
      subst hx
      refine ⟨fun hw => (by cases hw), (Array.getElem?_eq_some_iff.1 hh).1, _, hh, cur, fz, rfl, ?_, fun i x hi => ?_⟩
      · have h1 := (List.takeWhile_prefix (l := cur.toList.drop base) (·.oneCell')).length_le
        rw [List.length_drop] at h1
        have e0 : cur.toList.length = cur.size := Array.length_toList
        rw [e0] at h1 ho
        rw [List.length_map]
        exact Nat.le_trans (Nat.add_le_add_left h1 base) (by omega)
      · rw [List.getElem?_map] at hi
        obtain ⟨v, hv, rfl⟩ := Option.map_eq_some_iff.1 hi
        obtain ⟨h1, h2⟩ := takeWhile_get hv
        rw [List.getElem?_drop, Array.getElem?_toList] at h1
        exact ⟨v, h1, absV_rel h2⟩
  · have := absH_wr h3
    rw [this] at h5
    cases h5
end Go.Proofs.Ytkgbeihcepociaa.Ex
end

section

set_option linter.unusedSimpArgs false
set_option linter.unusedVariables false
namespace Go.Proofs.Ytkgbeihcepociaa
open Go.RowKit Go.ChangeShapes Go.WideShapes Go.ChangeAt
open Go.ChangeMaps (open_string shut_string)
theorem own : ownKnob Try.prog.godebug = none := by kernel_rfl
theorem laidOut : laidOutB Try.prog = true := by kernel_rfl
section
variable {H : Type} {enc : TypeId × Value → H} {P : Program} {W W' : World}
theorem below_trodAll (hl : laidOutB P = true) (hb : Below W.heap.size W W') : ∀ {ts : List TypeId} {vs : List Value} {ds : List (DataW H)} {ps : List MemPlace},
    ts.all (fun t => P.readableRec t && decide (t < P.types.size)) = true → DataW.TrodAll enc P W 0 (fun _ => true) true ts vs ds ps → DataW.TrodAll enc P W' 0 (fun b => decide (b < W.heap.size)) true ts vs ds ps
  | [], _, _, _, _, h => by obtain ⟨rfl, rfl, rfl⟩ := trodAll_nil h; exact trodAll_mk0
  | t :: ts, vs, ds, ps, hr, h => by
    obtain ⟨v, vs', d, ds', p, q, rfl, rfl, rfl, h1, h2⟩ := trodAll_cons h
    simp only [List.all_cons, Bool.and_eq_true, decide_eq_true_eq] at hr
    refine trodAll_cons_mk (Below.trod hl hr.1.1 hr.1.2 h1 hb ?_) (below_trodAll hl hb (by simpa using hr.2) h2)
    obtain ⟨m, hm⟩ := h1
    exact DataW.trod_lt m _ _ _ hm
theorem weights_le {ts : List TypeId} {ds : List (DataW H)} (hsz : (DataW.weightsEach P ts ds).all (· ≤ reachBytes) = true) {j : Nat} {t : TypeId} {d : DataW H} (hj : ts[j]? = some t) (hd : ds[j]? = some d) : ∀ n ∈ d.weights P t, n ≤ reachBytes := fun n hn => by
  have := List.all_eq_true.1 hsz n (DataW.weights_mem_each hj hd n hn)
  simpa using this
theorem weightsAll_mem {e : TypeId} : ∀ {l : List (DataW H)} {i : Nat} {d : DataW H}, l[i]? = some d → ∀ n ∈ d.weights P e, n ∈ DataW.weightsAll P e l
  | d0 :: l, 0, d, h, n, hn => by simp at h; subst h; simp [DataW.weightsAll, hn]
  | d0 :: l, i + 1, d, h, n, hn => by
    simp only [List.getElem?_cons_succ] at h
    simp only [DataW.weightsAll, List.mem_append]
    exact .inr (weightsAll_mem h n hn)
end
end Go.Proofs.Ytkgbeihcepociaa
end

section

set_option linter.unusedSimpArgs false
set_option linter.unusedVariables false
namespace Go.Proofs.Ytkgbeihcepociaa.Ex
open Go Go.RowKit Go.ChangeShapes Go.WideShapes Go.ChangeAt
section
variable {H : Type} (enc : TypeId × Value → H)
/-- The blocks of the abstract heap. -/
def InH (W : World) : Nat → Prop := fun b => b < (absH W).n
/-- A value of type t that is read is plain data; of what is not too great, B holds. -/
def OpensA (P : Program) (W : World) (t : TypeId) {α : Type} (R : Rep α) (B : α → Prop) : Prop :=
  P.cellsOf t = R.z ∧ ∀ (fuel : Nat) (cs : List Value) (x : DataW H × List MemPlace), DataW.trod enc P W 0 (fun _ => true) true fuel t cs = some x → (x.1.weights P t).all (· ≤ reachBytes) = true →
    cs.length = R.z ∧ (∀ c ∈ cs, c.oneCell' = true) ∧ ∃ y, R.is (InH W) (absH W) (cs.map (absV W)) y ∧ B y
variable {enc} {P : Program} {W : World}
theorem opensA_int {t : TypeId} (ht : P.underlying t = some (.int .i64)) (hc : P.cellsOf t = 1) : OpensA enc P W t RInt (fun _ => True) := by
  refine ⟨hc, fun fuel cs x h _ => ?_⟩
  obtain ⟨n, rfl, rfl, hw⟩ := DataW.trod_int ht h
  refine ⟨rfl, by simp; rfl, n, ⟨rfl, ?_⟩, trivial⟩
  simp only [Lit.wf, IntKind.min, IntKind.max, IntKind.signed, IntKind.bits] at hw
  simp at hw
  exact ⟨hw.1, by omega⟩
theorem flat_getV {α : Type} {z : Nat} : ∀ {L : List (List α)}, (∀ x ∈ L, x.length = z) → ∀ (i : Nat) {c : List α}, L[i]? = some c → (L.flatten.drop (i * z)).take z = c
  | [], _, i, c, hc => by simp at hc
  | a :: r, h, i, c, hc => by
    have ha := h a (by simp)
    cases i with
    | zero =>
      obtain rfl : a = c := by simpa using hc
      rw [Nat.zero_mul, List.drop_zero, List.flatten_cons, ← ha, List.take_left']
      rfl
    | succ i =>
      rw [List.flatten_cons, Nat.succ_mul, Nat.add_comm, List.drop_append, List.drop_of_length_le (by omega), List.nil_append, ha, Nat.add_sub_cancel_left]
      exact flat_getV (fun x hx => h x (by simp [hx])) i (by simpa using hc)
theorem flat_lenV {α : Type} {z : Nat} {L : List (List α)} (h : ∀ x ∈ L, x.length = z) : L.flatten.length = L.length * z := by
  induction L with
  | nil => simp
  | cons a r ih =>
    rw [List.flatten_cons, List.length_append, ih (fun x hx => h x (by simp [hx])), h a (by simp), List.length_cons, Nat.succ_mul]
    omega
theorem weightsAll_mem {e : TypeId} : ∀ {l : List (DataW H)} {d : DataW H}, d ∈ l → ∀ n ∈ d.weights P e, n ∈ DataW.weightsAll P e l
  | a :: r, d, hd, n, hn => by
    simp only [DataW.weightsAll, List.mem_append]
    rcases List.mem_cons.1 hd with rfl | h
    · exact .inl hn
    · exact .inr (weightsAll_mem h n hn)
theorem opensA_list {t e : TypeId} {α : Type} {R : Rep α} {B : α → Prop} {by' : Nat} (ht : P.underlying t = some (.slice e)) (hc : P.cellsOf t = 1) (hb : P.bytesOf e = by') (h0 : 0 < R.z) (ho : OpensA enc P W e R B) :
    OpensA enc P W t (RSl R) (fun ys => ys.length * by' ≤ 140737488351232 ∧ ∀ y ∈ ys, B y) := by
  refine ⟨hc, fun fuel cs x hf hw => ?_⟩
  rcases DataW.trod_slice ht hf with ⟨rfl, rfl⟩ | ⟨a, len, cap, elems, rest, m, rfl, rfl, rfl, hba, hl, hm, hlen, hel, hsp, hns⟩
  · exact ⟨rfl, by simp; rfl, [], RSl_is.2 ⟨_, rfl, IsSl.nil⟩, by simp, by simp⟩
  · rw [ho.1] at hel hsp
    simp only [DataW.weights, ht, List.all_cons, List.all_append, Bool.and_eq_true, decide_eq_true_eq, hb] at hw
    obtain ⟨hw1, hw2, hw3⟩ := hw
    have hrl := (hsp rfl).1
    have hbig : len * by' ≤ 140737488351232 := by
      have h1 : len * by' ≤ (elems.map (·.1)).length * by' + (rest.map (·.1)).length * by' := by rw [List.length_map, hlen]; omega
      rw [← Nat.add_mul] at h1
      exact Nat.le_trans h1 hw1
    have hone : ∀ c ∈ [Value.slice (some a) len cap], c.oneCell' = true := by simp; rfl
    refine ⟨rfl, hone, ?_⟩
    by_cases hz : len = 0 ∧ cap = 0
    · obtain ⟨rfl, rfl⟩ := hz
      refine ⟨[], RSl_is.2 ⟨.sl 0 0 0 (.kn 0), by simp [absV], .mk (L := []) ⟨by simp, .inr ⟨0, 0, _, [], rfl, by unfold getR; rw [absH_0], by simp [cut]⟩⟩ (fun b off n cap e => ?_) (fun b off n cap e => by cases e; exact Nat.le_refl 0) .nil⟩, by simp, by simp⟩
      cases e
      exact at_lt (absH_0 W)
    · have hcap : 0 < cap := by omega
      have hsz0 : elems.length + rest.length = cap := by omega
      -- what is read
      have hrd : ∀ i, i < cap → ∃ l x, W.cells? 0 (a.add (i * R.z)) R.z = some l ∧ DataW.trod enc P W 0 (fun _ => true) true m e l = some x ∧ (i < len → elems[i]? = some x) := fun i hi => by
        by_cases hil : i < len
        · have h2 := hel i hil
          rw [List.getElem?_eq_getElem (by omega)] at h2
          obtain ⟨l, hl1, hl2⟩ := Option.bind_eq_some_iff.1 h2
          exact ⟨l, _, hl1, hl2, fun _ => List.getElem?_eq_getElem (by omega)⟩
        · have h2 := (hsp rfl).2 (i - len) (by omega)
          rw [List.getElem?_eq_getElem (by omega), show len + (i - len) = i by omega] at h2
          obtain ⟨l, hl1, hl2⟩ := Option.bind_eq_some_iff.1 h2
          exact ⟨l, _, hl1, hl2, fun h => absurd h hil⟩
      obtain ⟨r, o, spot⟩ := a
      obtain ⟨l0, x0, q1, q2, -⟩ := hrd 0 hcap
      have hspot : spot = none := by
        have h3 := World.cells?_some q1
        have h4 := h3.2.2 0 h0
        rw [List.getElem?_eq_getElem (by have := h3.2.1; omega)] at h4
        simpa [Addr.add] using World.cell?_spot h4
      subst hspot
      have hcell : ∀ (k : Nat) (v : Value), W.cell? (⟨r, o + k, none⟩ : Addr) = some v → ∃ cur e fz, W.heap[r]? = some (.cells cur e fz) ∧ cur[o + k]? = some v := fun k v hk => by
        unfold World.cell? at hk
        cases hh : W.heap[r]? with
        | none => simp [hh] at hk
        | some ob => cases ob <;> simp [hh] at hk <;> exact ⟨_, _, _, rfl, hk⟩
      -- the row
      obtain ⟨cur, te, fz, hrow⟩ : ∃ cur te fz, W.heap[r]? = some (.cells cur te fz) := by
        have h3 := World.cells?_some q1
        have h4 := h3.2.2 0 h0
        rw [List.getElem?_eq_getElem (by have := h3.2.1; omega)] at h4
        obtain ⟨cur, te, fz, h5, _⟩ := hcell 0 _ (by simpa [Addr.add] using h4)
        exact ⟨cur, te, fz, h5⟩
      have hcur : ∀ i l, W.cells? 0 ((⟨r, o, none⟩ : Addr).add (i * R.z)) R.z = some l → l.length = R.z ∧ ∀ f, f < R.z → cur[o + i * R.z + f]? = l[f]? := fun i l hil => by
        have h3 := World.cells?_some hil
        refine ⟨h3.2.1, fun f hf => ?_⟩
        have h4 := h3.2.2 f hf
        obtain ⟨u, hu⟩ : ∃ u, l[f]? = some u := ⟨_, List.getElem?_eq_getElem (by have := h3.2.1; omega)⟩
        rw [hu] at h4 ⊢
        rw [addr_add, addr_add] at h4
        obtain ⟨cur', te', fz', h5, h6⟩ := hcell (i * R.z + f) _ (by rw [← Nat.add_assoc]; exact h4)
        rw [hrow] at h5
        obtain ⟨rfl, _, _⟩ := Obj.cells.inj (Option.some.inj h5)
        rw [← h6, Nat.add_assoc]
      -- the elements, and the data
      have key : ∀ n, n ≤ len → ∃ (L : List (List Value)) (ys : List α), L.length = n ∧ ys.length = n ∧ (∀ c ∈ L, c.length = R.z ∧ ∀ u ∈ c, u.oneCell' = true) ∧ (∀ (i : Nat) c y, L[i]? = some c → ys[i]? = some y → R.is (InH W) (absH W) (c.map (absV W)) y) ∧ (∀ (i : Nat) c, L[i]? = some c → ∀ f, f < R.z → cur[o + i * R.z + f]? = c[f]?) ∧ ∀ y ∈ ys, B y := by
        intro n
        induction n with
        | zero => exact fun _ => ⟨[], [], rfl, rfl, by simp, by simp, by simp, by simp⟩
        | succ n ih =>
          intro hn
          obtain ⟨L, ys, h1, h2, h3, h4, h5, h6⟩ := ih (by omega)
          obtain ⟨l, x, e1, e2, e3⟩ := hrd n (by omega)
          have e3 := e3 (by omega)
          have hwx : (x.1.weights P e).all (· ≤ reachBytes) = true := by
            rw [List.all_eq_true] at hw2 ⊢
            intro k hk
            exact hw2 k (weightsAll_mem (List.mem_map.2 ⟨x, List.mem_of_getElem? e3, rfl⟩) k hk)
          obtain ⟨g1, g2, y, g3, g4⟩ := ho.2 _ _ _ e2 hwx
          obtain ⟨g5, g6⟩ := hcur n l e1
          refine ⟨L ++ [l], ys ++ [y], by simp [h1], by simp [h2], fun c hc => ?_, fun i c z hc hz => ?_, fun i c hc => ?_, fun z hz => ?_⟩
          · rcases List.mem_append.1 hc with hc | hc
            · exact h3 c hc
            · simp at hc; subst hc; exact ⟨g1, g2⟩
          · by_cases hi : i < n
            · rw [List.getElem?_append_left (by omega)] at hc hz
              exact h4 i c z hc hz
            · have := (List.getElem?_eq_some_iff.1 hc).1
              simp only [List.length_append, List.length_singleton] at this
              obtain rfl : i = n := by omega
              rw [List.getElem?_append_right (by omega), h1, Nat.sub_self] at hc
              rw [List.getElem?_append_right (by omega), h2, Nat.sub_self] at hz
              simp at hc hz
              subst hc hz
              exact g3
          · by_cases hi : i < n
            · rw [List.getElem?_append_left (by omega)] at hc
              exact h5 i c hc
            · have := (List.getElem?_eq_some_iff.1 hc).1
              simp only [List.length_append, List.length_singleton] at this
              obtain rfl : i = n := by omega
              rw [List.getElem?_append_right (by omega), h1, Nat.sub_self] at hc
              simp at hc
              subst hc
              exact g6
          · rcases List.mem_append.1 hz with hz | hz
            · exact h6 z hz
            · simp at hz; subst hz; exact g4
      obtain ⟨L, ys, k1, k2, k3, k4, k5, k6⟩ := key len (Nat.le_refl _)
      have hfl : L.flatten.length = len * R.z := by rw [flat_lenV (fun c hc => (k3 c hc).1), k1]
      have hpre : (cur.toList.drop o).take (len * R.z) = L.flatten := by
        apply List.ext_getElem?
        intro j
        by_cases hj : j < len * R.z
        · rw [List.getElem?_take, if_pos hj, List.getElem?_drop, Array.getElem?_toList]
          have hd : j / R.z < len := Nat.div_lt_of_lt_mul (by rw [Nat.mul_comm]; exact hj)
          have hm2 := Nat.mod_lt j h0
          have hdm := Nat.div_add_mod j R.z
          rw [Nat.mul_comm] at hdm
          have hLd : L[j / R.z]? = some L[j / R.z] := List.getElem?_eq_getElem (by omega)
          have h7 := k5 (j / R.z) _ hLd (j % R.z) hm2
          rw [Nat.add_assoc, hdm] at h7
          rw [h7]
          have h8 := flat_getV (fun c hc => (k3 c hc).1) (j / R.z) hLd
          rw [← h8, List.getElem?_take, if_pos hm2, List.getElem?_drop, hdm]
        · rw [List.getElem?_eq_none (by rw [List.length_take]; omega), List.getElem?_eq_none (by omega)]
      have hto : o ≤ cur.size := by
        obtain ⟨hll, hff⟩ := hcur 0 l0 q1
        have := hff 0 h0
        rw [List.getElem?_eq_getElem (by omega)] at this
        have := (Array.getElem?_eq_some_iff.1 this).1
        omega
      have hro : rowO W r = some (cur.toList, te) := by unfold rowO; rw [hrow]
      have hwin : (r, o) ∈ wins W := mem_wins.2 ⟨_, _, hro, by rw [Array.length_toList]; exact hto⟩
      refine ⟨ys, RSl_is.2 ⟨.sl (widx W (r, o)) 0 len (.kn cap), ?_, .mk (L := L.map (·.map (absV W))) ⟨?_, .inr ⟨widx W (r, o), 0, .kn cap, ((cur.toList.drop o).takeWhile (·.oneCell')).map (absV W), by rw [List.length_map, k1], ?_, ?_⟩⟩ (fun b off n cap e => ?_) (fun b off n cap e => ?_) ⟨by rw [List.length_map, k1, k2], fun i c y hc hy => ?_⟩⟩, by rw [k2]; exact hbig, k6⟩
      · show [absV W (.slice (some ⟨r, o, none⟩) len cap)] = _
        simp only [absV, if_neg hz, if_pos (show (r, o) ∈ wins W ∧ len ≤ cap ∧ cap ≤ maxLen from ⟨hwin, hl, hm⟩)]
      · intro c hc
        obtain ⟨d, hd, rfl⟩ := List.mem_map.1 hc
        rw [List.length_map]
        exact (k3 d hd).1
      · unfold getR
        rw [absH_at hwin]
        simp only [absB, hro]
      · have htw : ((cur.toList.drop o).takeWhile (·.oneCell')).take (len * R.z) = L.flatten := by
          rw [takeWhile_take, hpre]
          intro u hu
          rw [hpre] at hu
          obtain ⟨c, hc, hu⟩ := List.mem_flatten.1 hu
          exact (k3 c hc).2 u hu
        have hlen2 : len * R.z ≤ ((cur.toList.drop o).takeWhile (·.oneCell')).length := by
          have := congrArg List.length htw
          rw [List.length_take, hfl] at this
          omega
        rw [List.length_map, k1]
        unfold cut
        rw [if_pos (by rw [List.length_map]; omega), List.drop_zero, ← List.map_take, htw, List.map_flatten]
      · cases e
        exact at_lt (absH_at hwin)
      · cases e
        exact hl
      · rw [List.getElem?_map] at hc
        obtain ⟨d, hd, rfl⟩ := Option.map_eq_some_iff.1 hc
        exact k4 i d y hd hy
/-! Structs. -/
/-- Values of several types, one behind another. -/
def OpensL (enc : TypeId × Value → H) (P : Program) (W : World) (ts : List TypeId) {α : Type} (R : Rep α) (B : α → Prop) : Prop :=
  (ts.map P.cellsOf).sum = R.z ∧ ∀ (fuel : Nat) (cs : List Value) (xs : List (DataW H × List MemPlace)), cs.length = R.z → xs.length = ts.length →
    (∀ (i : Nat) t, ts[i]? = some t → DataW.trod enc P W 0 (fun _ => true) true fuel t ((cs.drop ((ts.take i).map P.cellsOf).sum).take (P.cellsOf t)) = xs[i]?) →
    (DataW.weightsEach P ts (xs.map (·.1))).all (· ≤ reachBytes) = true →
    (∀ c ∈ cs, c.oneCell' = true) ∧ ∃ y, R.is (InH W) (absH W) (cs.map (absV W)) y ∧ B y
theorem opensL_one {t : TypeId} {α : Type} {R : Rep α} {B : α → Prop} (h : OpensA enc P W t R B) : OpensL enc P W [t] R B := by
  refine ⟨by simp [h.1], fun fuel cs xs hc hx hh hw => ?_⟩
  match xs, hx with
  | [x], _ =>
    have h1 := hh 0 t rfl
    simp only [List.take_zero, List.map_nil, List.sum_nil, List.drop_zero, List.getElem?_cons_zero] at h1
    rw [h.1, ← hc, List.take_length] at h1
    simp only [List.map_cons, List.map_nil, DataW.weightsEach, List.append_nil] at hw
    exact (h.2 _ _ _ h1 hw).2
theorem opensL_cons {t : TypeId} {ts : List TypeId} {α β : Type} {R : Rep α} {S : Rep β} {B : α → Prop} {C : β → Prop} (h : OpensA enc P W t R B) (k : OpensL enc P W ts S C) : OpensL enc P W (t :: ts) (RPair R S) (fun x => B x.1 ∧ C x.2) := by
  refine ⟨by simp [h.1, k.1, RPair], fun fuel cs xs hc hx hh hw => ?_⟩
  match xs, hx with
  | x :: xs, hx =>
    have hcz : cs.length = R.z + S.z := hc
    have h1 := hh 0 t rfl
    simp only [List.take_zero, List.map_nil, List.sum_nil, List.drop_zero, List.getElem?_cons_zero, h.1] at h1
    simp only [List.map_cons, DataW.weightsEach, List.all_append, Bool.and_eq_true] at hw
    obtain ⟨g1, g2, y, g3, g4⟩ := h.2 _ _ _ h1 hw.1
    obtain ⟨q1, z, q2, q3⟩ := k.2 fuel (cs.drop R.z) xs (by rw [List.length_drop]; omega) (by simpa using hx) (fun i t' ht' => by
      have h2 := hh (i + 1) t' (by simpa using ht')
      rw [List.take_succ_cons, List.map_cons, List.sum_cons, h.1, ← List.drop_drop, List.getElem?_cons_succ] at h2
      exact h2) hw.2
    refine ⟨fun c hc => ?_, (y, z), ⟨(cs.take R.z).map (absV W), (cs.drop R.z).map (absV W), ?_, g3, q2⟩, g4, q3⟩
    · rw [← List.take_append_drop R.z cs] at hc
      exact (List.mem_append.1 hc).elim (g2 c) (q1 c)
    · rw [← List.map_append, List.take_append_drop]
/-- Do the fields follow one another? -/
def fieldsOk (P : Program) : List Field → Nat → Bool
  | [], _ => true
  | f :: r, k => Nat.beq f.offset k && fieldsOk P r (k + P.cellsOf f.type)
theorem fieldsOk_at : ∀ {fs : List Field} {k : Nat}, fieldsOk P fs k = true → ∀ (i : Nat) f, fs[i]? = some f → f.offset = k + (((fs.map (·.type)).take i).map P.cellsOf).sum
  | [], k, _, i, f, hf => by simp at hf
  | g :: r, k, h, i, f, hf => by
    simp only [fieldsOk, Bool.and_eq_true] at h
    cases i with
    | zero => simp at hf; subst hf; simpa using Nat.eq_of_beq_eq_true h.1
    | succ i =>
      have := fieldsOk_at h.2 i f (by simpa using hf)
      rw [this]
      simp only [List.map_cons, List.take_succ_cons, List.sum_cons]
      omega
theorem opensA_struct {t : TypeId} {fs : Array Field} {ts : List TypeId} {α β : Type} {R : Rep α} {B : α → Prop} {C : β → Prop} (f : β → α) (g : α → β) (hfg : ∀ y, f (g y) = y) (ht : P.underlying t = some (.struct fs)) (hts : fs.toList.map (·.type) = ts) (hok : fieldsOk P fs.toList 0 = true) (hc : P.cellsOf t = R.z)
    (h : OpensL enc P W ts R B) (hBC : ∀ y, B y → C (g y)) : OpensA enc P W t (RMap f R) C := by
  subst hts
  refine ⟨hc, fun fuel cs x hf hw => ?_⟩
  obtain ⟨xs, n, rfl, rfl, hcs, hxs, hel⟩ := DataW.trod_struct ht hf
  simp only [DataW.weights, ht] at hw
  rw [hc] at hcs
  obtain ⟨q1, y, q2, q3⟩ := h.2 n cs xs hcs (by simpa using hxs) (fun i t' ht' => by
    rw [List.getElem?_map] at ht'
    obtain ⟨fd, hfd, rfl⟩ := Option.map_eq_some_iff.1 ht'
    have := hel i fd (by simpa using hfd)
    rw [fieldsOk_at hok i fd hfd, Nat.zero_add] at this
    exact this) hw
  exact ⟨hcs, q1, g y, by show R.is _ _ _ (f (g y)); rw [hfg]; exact q2, hBC y q3⟩
end
section
variable {H : Type} {enc : TypeId × Value → H} {W : World}
theorem opensA_ints : OpensA enc Try.prog W 63 (RSl RInt) (fun ys => ys.length * 8 ≤ 140737488351232 ∧ ∀ y ∈ ys, True) :=
  opensA_list (R := RInt) (B := fun _ => True) Try.underlying63 (by kernel_rfl) (by kernel_rfl) (by decide) (opensA_int Try.underlying3 (by kernel_rfl))
end
end Go.Proofs.Ytkgbeihcepociaa.Ex
end

section

set_option linter.unusedSimpArgs false
set_option linter.unusedVariables false
namespace Go.Proofs.Ytkgbeihcepociaa.Ex
open Go Go.RowKit Go.ChangeShapes Go.WideShapes Go.ChangeAt
def OkOsd (x : OsdD) : Prop := True
def OkPool (x : PoolD) : Prop := True
def OkBkt (x : BktD) : Prop := Sm 8 x.items ∧ Sm 8 x.weights
def OkMp (x : MapD) : Prop := (Sm 40 x.osds ∧ ∀ y ∈ x.osds, OkOsd y) ∧ (Sm 32 x.pools ∧ ∀ y ∈ x.pools, OkPool y) ∧ (Sm 64 x.buckets ∧ ∀ y ∈ x.buckets, OkBkt y)
section
variable {H : Type} {enc : TypeId × Value → H} {W : World}
theorem opensA_Pool : OpensA enc Try.prog W 94 RPool OkPool :=
  opensA_struct (ts := [3, 3, 3, 3]) (fun x : PoolD => (x.id, x.size, x.min, x.pgs)) (fun y => ⟨y.1, y.2.1, y.2.2.1, y.2.2.2⟩) (fun y => rfl) Try.underlying94 (by rfl) (by kernel_rfl) (by kernel_rfl) (opensL_cons (opensA_int Try.underlying3 (by kernel_rfl)) (opensL_cons (opensA_int Try.underlying3 (by kernel_rfl)) (opensL_cons (opensA_int Try.underlying3 (by kernel_rfl)) (opensL_one (opensA_int Try.underlying3 (by kernel_rfl)))))) (fun y ⟨_, _, _, _⟩ => trivial)
theorem opensA_Bkt : OpensA enc Try.prog W 92 RBkt OkBkt :=
  opensA_struct (ts := [3, 3, 63, 63]) (fun x : BktD => (x.id, x.kind, x.items, x.weights)) (fun y => ⟨y.1, y.2.1, y.2.2.1, y.2.2.2⟩) (fun y => rfl) Try.underlying92 (by rfl) (by kernel_rfl) (by kernel_rfl) (opensL_cons (opensA_int Try.underlying3 (by kernel_rfl)) (opensL_cons (opensA_int Try.underlying3 (by kernel_rfl)) (opensL_cons opensA_ints (opensL_one opensA_ints)))) (fun y ⟨_, _, ⟨h2, _⟩, ⟨h3, _⟩⟩ => ⟨h2, h3⟩)
end
end Go.Proofs.Ytkgbeihcepociaa.Ex
end

section

set_option linter.unusedSimpArgs false
set_option linter.unusedVariables false
set_option maxRecDepth 10000
set_option maxHeartbeats 4000000
namespace Go.Proofs.Ytkgbeihcepociaa.Ex
open Go
end Go.Proofs.Ytkgbeihcepociaa.Ex
end

section

set_option linter.unusedSimpArgs false
set_option linter.unusedVariables false
set_option maxRecDepth 10000
set_option maxHeartbeats 4000000
namespace Go.Proofs.Ytkgbeihcepociaa.Ex
open Go
theorem pool10_x {F : Nat → Prop} {H : AH} {m : MapD} {vo vp vb : AV} (id : Int) (hm : MpAt F H m vo vp vb) (hl : Sm 32 m.pools) :
    WC Try.prog (tabOf Try.prog NT0) S0 65 [mpV m vo vp vb, .lit (.int .i64 id)] H fun r h' => Ext H.n H h' ∧ r = .tup [poolV (poolG m id), .lit (.bool (poolF m id).isSome)] := by
  refine WC_fn Try.func65 rfl rfl ?_
  unfold Sm at hl
  have s1 := hm.p.isSl
  have s2 := hm.p.lenD
  have o1 := hm.o.one
  have o2 := hm.p.one
  have o3 := hm.b.one
  simp only [core, Nat.reduceAdd, Nat.reduceSub, Nat.reduceMul, Nat.reduceLT, Nat.reduceEqDiff, reduceCtorEq, Nat.reduceLeDiff, Int.reduceLE, Int.reduceLT, Int.reduceToNat, Try.ntmps65, mpV, s1, s2, o1, o2, o3]
  obtain ⟨h2, hh2⟩ : ∃ h2, h2 = (H.push (.cells [.lit (.int .i64 m.epoch), vo, vp, vb, .lit (.int .i64 m.leaf)] 31)).push (.cells [.lit (.int .i64 0), .lit (.int .i64 0), .lit (.int .i64 0), .lit (.int .i64 0)] 94) := ⟨_, rfl⟩
  have E0 : Ext H.n H h2 := hh2 ▸ ((Ext.refl _ _).push _ (Nat.le_refl _)).push _ (by rw [n_push]; omega)
  have A0 : h2.at (H.n + 1) = some (.cells [.lit (.int .i64 0), .lit (.int .i64 0), .lit (.int .i64 0), .lit (.int .i64 0)] 94) := hh2 ▸ at_push_n _ _
  have n2 : h2.n = H.n + 2 := by rw [hh2, n_push, n_push]
  rw [← hh2]
  clear hh2
  refine WB_for m.pools.length (fun i t h => Ext h2.n h2 h ∧ poolF m id = (m.pools.drop i).find? (fun b => b.id == id) ∧ t.n = 22 ∧ t.get 1 = .lit (.int .i64 id) ∧ t.get 4 = .ptr (H.n + 1) 0 ∧ t.get 9 = vp ∧ t.get 10 = .lit (.int .i64 m.pools.length) ∧ t.get 11 = .lit (.int .i64 i)) ?_ ?_ _ _ ?_
  · rintro i t h hlt hc ⟨he, hf, hn, g1, g4, g9, g10, g11⟩ ih
    obtain ⟨x, hx⟩ : ∃ x, m.pools[i]? = some x := ⟨_, List.getElem?_eq_getElem hlt⟩
    have E1 : Ext H.n H h := E0.trans (he.mono (by omega))
    obtain ⟨c, hc1, hld, hld0⟩ := hm.p.atE (T := tabOf Try.prog NT0) E1 RPool_z hx
    obtain ⟨rfl, -⟩ := RPool_is.1 hc1
    have hws := wrap_succ hlt (by omega)
    rw [find_drop hx] at hf
    have A1 := (he.2 _ (by omega)).trans A0
    have l1 : H.n + 1 < h.n := at_lt A1
    simp only [core, Nat.reduceAdd, Nat.reduceSub, Nat.reduceMul, Nat.reduceLT, Nat.reduceEqDiff, reduceCtorEq, Nat.reduceLeDiff, Int.reduceLE, Int.reduceLT, Int.reduceToNat, s1, s2, hn, g1, g4, g9, g10, g11, hlt, hc, hld, hld0, hws]
    refine ⟨fun hq => ?_, fun hq => ?_⟩
    · rw [if_pos hq] at hf
      have hG : poolG m id = x := by unfold poolG; rw [hf]; rfl
      simp only [core, Nat.reduceAdd, Nat.reduceSub, Nat.reduceMul, Nat.reduceLT, Nat.reduceEqDiff, reduceCtorEq, Nat.reduceLeDiff, Int.reduceLE, Int.reduceLT, Int.reduceToNat, hn, g1, g4, g9, g10, g11, A1, l1]
      refine ⟨(E1.put _ (by omega)).push _ (by rw [n_put]; omega), ?_⟩
      rw [hG, hf]
      rfl
    · rw [if_neg (by rw [hq]; decide)] at hf
      refine ih _ _ ⟨he.push _ he.1, hf, ?_⟩
      simp only [core, Nat.reduceAdd, Nat.reduceSub, Nat.reduceMul, Nat.reduceLT, Nat.reduceEqDiff, reduceCtorEq, Nat.reduceLeDiff, Int.reduceLE, Int.reduceLT, Int.reduceToNat, hn, g1, g4, g9, g10, g11]
  · rintro t h hc ⟨he, hf, hn, g1, g4, g9, g10, g11⟩
    have A1 := (he.2 _ (by omega)).trans A0
    have l1 : H.n + 1 < h.n := at_lt A1
    have E1 : Ext H.n H h := E0.trans (he.mono (by omega))
    have hf : poolF m id = none := by rw [hf, List.drop_length]; rfl
    have hG : poolG m id = pool0 := by unfold poolG; rw [hf]; rfl
    simp only [core, Nat.reduceAdd, Nat.reduceSub, Nat.reduceMul, Nat.reduceLT, Nat.reduceEqDiff, reduceCtorEq, Nat.reduceLeDiff, Int.reduceLE, Int.reduceLT, Int.reduceToNat, s1, s2, hn, g1, g4, g9, g10, g11, hc, A1, l1, bdM, fillA]
    rw [hG, hf]
    exact ⟨E1.put _ (by omega), rfl⟩
  · simp only [core, Nat.reduceAdd, Nat.reduceSub, Nat.reduceMul, Nat.reduceLT, Nat.reduceEqDiff, reduceCtorEq, Nat.reduceLeDiff, Int.reduceLE, Int.reduceLT, Int.reduceToNat]
    refine ⟨Ext.refl _ _, rfl, ?_⟩
    (repeat' apply And.intro) <;> first | rfl | trivial
end Go.Proofs.Ytkgbeihcepociaa.Ex
end

section

set_option linter.unusedSimpArgs false
set_option linter.unusedVariables false
set_option maxRecDepth 10000
set_option maxHeartbeats 4000000
namespace Go.Proofs.Ytkgbeihcepociaa.Ex
open Go
end Go.Proofs.Ytkgbeihcepociaa.Ex
end

section

set_option linter.unusedSimpArgs false
set_option linter.unusedVariables false
set_option maxRecDepth 10000
set_option maxHeartbeats 4000000
namespace Go.Proofs.Ytkgbeihcepociaa.Ex
open Go
def IdxP (ps : List PoolD) (id : Int) (n : Int) : Prop := (∃ (k : Nat) (q : PoolD), n = (k : Int) ∧ ps[k]? = some q ∧ ps.find? (fun q => q.id == id) = some q) ∨ (n = -1 ∧ ps.find? (fun q => q.id == id) = none)
theorem pick1_x {H : AH} {b : Nat} (q p : PoolD) (hb : H.at b = some (.cells [.lit (.int .i64 p.id), .lit (.int .i64 p.size), .lit (.int .i64 p.min), .lit (.int .i64 p.pgs)] 94)) :
    WC Try.prog (tabOf Try.prog NT0) S0 145 [poolV q, .ptr b 0] H fun r h' => Ext H.n H h' ∧ r = .lit (.bool (q.id == p.id)) := by
  refine WC_fn Try.func145 rfl rfl ?_
  have lb := at_lt hb
  obtain ⟨h0, hh0⟩ : ∃ h0, h0 = H.push (.cells [.lit (.int .i64 q.id), .lit (.int .i64 q.size), .lit (.int .i64 q.min), .lit (.int .i64 q.pgs)] 94) := ⟨_, rfl⟩
  have E0 : Ext H.n H h0 := hh0 ▸ (Ext.refl _ _).push _ (Nat.le_refl _)
  have A1 : h0.at H.n = some (.cells [.lit (.int .i64 q.id), .lit (.int .i64 q.size), .lit (.int .i64 q.min), .lit (.int .i64 q.pgs)] 94) := hh0 ▸ at_push_n _ _
  have A2 := (E0.2 _ lb).trans hb
  have L1 := ld_at (T := tabOf Try.prog NT0) A1
  have L2 := ld_at (T := tabOf Try.prog NT0) A2
  have l1 := at_lt A1
  have l2 := at_lt A2
  simp only [core, Nat.reduceAdd, Nat.reduceSub, Nat.reduceMul, Nat.reduceLT, Nat.reduceEqDiff, reduceCtorEq, Nat.reduceLeDiff, Int.reduceLE, Int.reduceLT, Int.reduceToNat, Try.ntmps145, poolV, ← hh0, L1, L2, l1, l2]
  first | exact ⟨E0, rfl⟩ | exact E0
theorem idx1_x {F : Nat → Prop} {H : AH} {v : AV} {b : Nat} {ps : List PoolD} (p : PoolD) (hv : IsSl RPool F H v ps) (hl : Sm 32 ps) (hb : H.at b = some (.cells [.lit (.int .i64 p.id), .lit (.int .i64 p.size), .lit (.int .i64 p.min), .lit (.int .i64 p.pgs)] 94)) :
    WC Try.prog (tabOf Try.prog NT0) S0 61 [v, .fn (.func 145) [] [.ptr b 0]] H fun r h' => Ext H.n H h' ∧ ∃ n, r = .lit (.int .i64 n) ∧ IdxP ps p.id n := by
  refine WC_fn Try.func61 rfl rfl ?_
  unfold Sm at hl
  have s1 := hv.isSl
  have s2 := hv.lenD
  simp only [core, Nat.reduceAdd, Nat.reduceSub, Nat.reduceMul, Nat.reduceLT, Nat.reduceEqDiff, reduceCtorEq, Nat.reduceLeDiff, Int.reduceLE, Int.reduceLT, Int.reduceToNat, Try.ntmps61, s1, s2]
  refine WB_for ps.length (fun i t h => Ext H.n H h ∧ ps.find? (fun q => q.id == p.id) = (ps.drop i).find? (fun q => q.id == p.id) ∧ t.n = 19 ∧ t.get 0 = v ∧ t.get 1 = .fn (.func 145) [] [.ptr b 0] ∧ t.get 7 = .lit (.int .i64 ps.length) ∧ t.get 8 = .lit (.int .i64 i)) ?_ ?_ _ _ ?_
  · rintro i t h hlt hc ⟨he, hf, hn, g0, g1, g7, g8⟩ ih
    obtain ⟨x, hx⟩ : ∃ x, ps[i]? = some x := ⟨_, List.getElem?_eq_getElem hlt⟩
    obtain ⟨c, hc1, hld, hld0⟩ := hv.atE (T := tabOf Try.prog NT0) he RPool_z hx
    obtain ⟨rfl, -⟩ := RPool_is.1 hc1
    have hws := wrap_succ hlt (by omega)
    rw [find_drop hx] at hf
    simp only [core, Nat.reduceAdd, Nat.reduceSub, Nat.reduceMul, Nat.reduceLT, Nat.reduceEqDiff, reduceCtorEq, Nat.reduceLeDiff, Int.reduceLE, Int.reduceLT, Int.reduceToNat, s1, s2, hn, g0, g1, g7, g8, hlt, hc, hld, hld0, hws]
    refine (pick1_x x p ((he.2 _ (at_lt hb)).trans hb)).mono ?_
    rintro r h2 ⟨e2, rfl⟩
    have E2 := he.step e2
    cases hq : (x.id == p.id) with
    | true =>
      rw [if_pos hq] at hf
      simp only [core, Nat.reduceAdd, Nat.reduceSub, Nat.reduceMul, Nat.reduceLT, Nat.reduceEqDiff, reduceCtorEq, Nat.reduceLeDiff, Int.reduceLE, Int.reduceLT, Int.reduceToNat, s1, s2, hn, g0, g1, g7, g8, hlt, hc, hld, hld0, hws, hq]
      first | exact ⟨E2, _, rfl, .inl ⟨i, x, rfl, hx, hf⟩⟩
    | false =>
      rw [if_neg (by rw [hq]; decide)] at hf
      simp only [core, Nat.reduceAdd, Nat.reduceSub, Nat.reduceMul, Nat.reduceLT, Nat.reduceEqDiff, reduceCtorEq, Nat.reduceLeDiff, Int.reduceLE, Int.reduceLT, Int.reduceToNat, s1, s2, hn, g0, g1, g7, g8, hlt, hc, hld, hld0, hws, hq]
      refine ih _ _ ⟨E2, hf, ?_⟩
      simp only [core, Nat.reduceAdd, Nat.reduceSub, Nat.reduceMul, Nat.reduceLT, Nat.reduceEqDiff, reduceCtorEq, Nat.reduceLeDiff, Int.reduceLE, Int.reduceLT, Int.reduceToNat, hn, g0, g1, g7, g8]
  · rintro t h hc ⟨he, hf, hn, g0, g1, g7, g8⟩
    simp only [core, Nat.reduceAdd, Nat.reduceSub, Nat.reduceMul, Nat.reduceLT, Nat.reduceEqDiff, reduceCtorEq, Nat.reduceLeDiff, Int.reduceLE, Int.reduceLT, Int.reduceToNat, s1, s2, hn, g0, g1, g7, g8, hc]
    rw [List.drop_length] at hf
    first | exact ⟨he, _, rfl, .inr ⟨rfl, hf⟩⟩
  · refine ⟨Ext.refl _ _, rfl, ?_⟩
    simp only [core, Nat.reduceAdd, Nat.reduceSub, Nat.reduceMul, Nat.reduceLT, Nat.reduceEqDiff, reduceCtorEq, Nat.reduceLeDiff, Int.reduceLE, Int.reduceLT, Int.reduceToNat]
    try ((repeat' apply And.intro) <;> first | rfl | trivial)
end Go.Proofs.Ytkgbeihcepociaa.Ex
end

section

set_option linter.unusedSimpArgs false
set_option linter.unusedVariables false
set_option maxRecDepth 10000
set_option maxHeartbeats 4000000
namespace Go.Proofs.Ytkgbeihcepociaa.Ex
open Go
def poolBad (p : PoolD) : Prop := p.id < 1 ∨ 4 < p.id ∨ p.size < 1 ∨ 8 < p.size ∨ p.min < 1 ∨ p.size < p.min ∨ p.pgs < 1 ∨ 8 < p.pgs
instance (p : PoolD) : Decidable (poolBad p) := by unfold poolBad; infer_instance
def mayPoolF (m : MapD) (p : PoolD) : Int := if poolBad p then 22 else match poolF m p.id with
  | some q => if q.pgs = p.pgs then 0 else 126
  | none => 0
theorem mayPool_x {F : Nat → Prop} {H : AH} {m : MapD} {vo vp vb : AV} (p : PoolD) (hm : MpAt F H m vo vp vb) (hl : Sm 32 m.pools) :
    WC Try.prog (tabOf Try.prog NT0) S0 119 [mpV m vo vp vb, poolV p] H fun r h' => Ext H.n H h' ∧ r = .lit (.int .i64 (mayPoolF m p)) := by
  refine WC_fn Try.func119 rfl rfl ?_
  have o1 := hm.o.one
  have o2 := hm.p.one
  have o3 := hm.b.one
  have s1 := hm.p.isSl
  have s2 := hm.p.lenD
  obtain ⟨h0, hh0⟩ : ∃ h0, h0 = (H.push (.cells [.lit (.int .i64 m.epoch), vo, vp, vb, .lit (.int .i64 m.leaf)] 31)).push (.cells [.lit (.int .i64 p.id), .lit (.int .i64 p.size), .lit (.int .i64 p.min), .lit (.int .i64 p.pgs)] 94) := ⟨_, rfl⟩
  have E0 : Ext H.n H h0 := hh0 ▸ ((Ext.refl _ _).push _ (Nat.le_refl _)).push _ (by rw [n_push]; omega)
  have A1 : h0.at H.n = some (.cells [.lit (.int .i64 m.epoch), vo, vp, vb, .lit (.int .i64 m.leaf)] 31) := hh0 ▸ (at_push_lt _ (by rw [n_push]; omega)).trans (at_push_n _ _)
  have A2 : h0.at (H.n + 1) = some (.cells [.lit (.int .i64 p.id), .lit (.int .i64 p.size), .lit (.int .i64 p.min), .lit (.int .i64 p.pgs)] 94) := hh0 ▸ at_push_n _ _
  have L1 := ld_at (T := tabOf Try.prog NT0) A1
  have L2 := ld_at (T := tabOf Try.prog NT0) A2
  have l1 := at_lt A1
  have l2 := at_lt A2
  by_cases c1 : p.id < 1
  · have hB : mayPoolF m p = 22 := by unfold mayPoolF; rw [if_pos (by unfold poolBad; omega)]
    rw [hB]
    simp only [core, Nat.reduceAdd, Nat.reduceSub, Nat.reduceMul, Nat.reduceLT, Nat.reduceEqDiff, reduceCtorEq, Nat.reduceLeDiff, Int.reduceLE, Int.reduceLT, Int.reduceToNat, Try.ntmps119, mpV, poolV, o1, o2, o3, ← hh0, L1, L2, l1, l2, c1]
    first | exact ⟨E0, rfl⟩ | exact E0
  by_cases c2 : 4 < p.id
  · have hB : mayPoolF m p = 22 := by unfold mayPoolF; rw [if_pos (by unfold poolBad; omega)]
    rw [hB]
    simp only [core, Nat.reduceAdd, Nat.reduceSub, Nat.reduceMul, Nat.reduceLT, Nat.reduceEqDiff, reduceCtorEq, Nat.reduceLeDiff, Int.reduceLE, Int.reduceLT, Int.reduceToNat, Try.ntmps119, mpV, poolV, o1, o2, o3, ← hh0, L1, L2, l1, l2, c1, c2]
    first | exact ⟨E0, rfl⟩ | exact E0
  by_cases c3 : p.size < 1
  · have hB : mayPoolF m p = 22 := by unfold mayPoolF; rw [if_pos (by unfold poolBad; omega)]
    rw [hB]
    simp only [core, Nat.reduceAdd, Nat.reduceSub, Nat.reduceMul, Nat.reduceLT, Nat.reduceEqDiff, reduceCtorEq, Nat.reduceLeDiff, Int.reduceLE, Int.reduceLT, Int.reduceToNat, Try.ntmps119, mpV, poolV, o1, o2, o3, ← hh0, L1, L2, l1, l2, c1, c2, c3]
    first | exact ⟨E0, rfl⟩ | exact E0
  by_cases c4 : 8 < p.size
  · have hB : mayPoolF m p = 22 := by unfold mayPoolF; rw [if_pos (by unfold poolBad; omega)]
    rw [hB]
    simp only [core, Nat.reduceAdd, Nat.reduceSub, Nat.reduceMul, Nat.reduceLT, Nat.reduceEqDiff, reduceCtorEq, Nat.reduceLeDiff, Int.reduceLE, Int.reduceLT, Int.reduceToNat, Try.ntmps119, mpV, poolV, o1, o2, o3, ← hh0, L1, L2, l1, l2, c1, c2, c3, c4]
    first | exact ⟨E0, rfl⟩ | exact E0
  by_cases c5 : p.min < 1
  · have hB : mayPoolF m p = 22 := by unfold mayPoolF; rw [if_pos (by unfold poolBad; omega)]
    rw [hB]
    simp only [core, Nat.reduceAdd, Nat.reduceSub, Nat.reduceMul, Nat.reduceLT, Nat.reduceEqDiff, reduceCtorEq, Nat.reduceLeDiff, Int.reduceLE, Int.reduceLT, Int.reduceToNat, Try.ntmps119, mpV, poolV, o1, o2, o3, ← hh0, L1, L2, l1, l2, c1, c2, c3, c4, c5]
    first | exact ⟨E0, rfl⟩ | exact E0
  by_cases c6 : p.size < p.min
  · have hB : mayPoolF m p = 22 := by unfold mayPoolF; rw [if_pos (by unfold poolBad; omega)]
    rw [hB]
    simp only [core, Nat.reduceAdd, Nat.reduceSub, Nat.reduceMul, Nat.reduceLT, Nat.reduceEqDiff, reduceCtorEq, Nat.reduceLeDiff, Int.reduceLE, Int.reduceLT, Int.reduceToNat, Try.ntmps119, mpV, poolV, o1, o2, o3, ← hh0, L1, L2, l1, l2, c1, c2, c3, c4, c5, c6]
    first | exact ⟨E0, rfl⟩ | exact E0
  by_cases c7 : p.pgs < 1
  · have hB : mayPoolF m p = 22 := by unfold mayPoolF; rw [if_pos (by unfold poolBad; omega)]
    rw [hB]
    simp only [core, Nat.reduceAdd, Nat.reduceSub, Nat.reduceMul, Nat.reduceLT, Nat.reduceEqDiff, reduceCtorEq, Nat.reduceLeDiff, Int.reduceLE, Int.reduceLT, Int.reduceToNat, Try.ntmps119, mpV, poolV, o1, o2, o3, ← hh0, L1, L2, l1, l2, c1, c2, c3, c4, c5, c6, c7]
    first | exact ⟨E0, rfl⟩ | exact E0
  by_cases c8 : 8 < p.pgs
  · have hB : mayPoolF m p = 22 := by unfold mayPoolF; rw [if_pos (by unfold poolBad; omega)]
    rw [hB]
    simp only [core, Nat.reduceAdd, Nat.reduceSub, Nat.reduceMul, Nat.reduceLT, Nat.reduceEqDiff, reduceCtorEq, Nat.reduceLeDiff, Int.reduceLE, Int.reduceLT, Int.reduceToNat, Try.ntmps119, mpV, poolV, o1, o2, o3, ← hh0, L1, L2, l1, l2, c1, c2, c3, c4, c5, c6, c7, c8]
    first | exact ⟨E0, rfl⟩ | exact E0
  have hB : mayPoolF m p = match poolF m p.id with
    | some q => if q.pgs = p.pgs then 0 else 126
    | none => 0 := by unfold mayPoolF; rw [if_neg (by unfold poolBad; omega)]
  rw [hB]
  simp only [core, Nat.reduceAdd, Nat.reduceSub, Nat.reduceMul, Nat.reduceLT, Nat.reduceEqDiff, reduceCtorEq, Nat.reduceLeDiff, Int.reduceLE, Int.reduceLT, Int.reduceToNat, Try.ntmps119, mpV, poolV, o1, o2, o3, ← hh0, L1, L2, l1, l2, c1, c2, c3, c4, c5, c6, c7, c8]
  refine (idx1_x p (hm.p.ext E0 (Nat.le_refl _)) hl A2).mono ?_
  rintro r h2 ⟨e2, n, rfl, hI⟩
  have E2 := E0.step e2
  have B1 := (e2.2 _ l1).trans A1
  have B2 := (e2.2 _ l2).trans A2
  have LB1 := ld_at (T := tabOf Try.prog NT0) B1
  have LB2 := ld_at (T := tabOf Try.prog NT0) B2
  have lb1 := at_lt B1
  have lb2 := at_lt B2
  rcases hI with ⟨k, q, rfl, hk, hf⟩ | ⟨rfl, hf⟩
  · have hF : poolF m p.id = some q := hf
    rw [hF]
    obtain ⟨c, hc1, hld, hld0⟩ := hm.p.atE (T := tabOf Try.prog NT0) E2 RPool_z hk
    obtain ⟨rfl, -⟩ := RPool_is.1 hc1
    have hlt := (List.getElem?_eq_some_iff.1 hk).1
    have hk0 : (0 : Int) ≤ (k : Int) := by omega
    have hn0 : ¬ (k : Int) < 0 := by omega
    simp only [core, Nat.reduceAdd, Nat.reduceSub, Nat.reduceMul, Nat.reduceLT, Nat.reduceEqDiff, reduceCtorEq, Nat.reduceLeDiff, Int.reduceLE, Int.reduceLT, Int.reduceToNat]
    rw [WB_regionD [0, 1, 2, 3, 4, 5, 6, 7, 8, 9, 10, 11, 12] 374075900823516023695234415374324642402377951879168 (by kernel_rfl)]
    by_cases cq : q.pgs = p.pgs
    · have cqn : (q.pgs != p.pgs) = false := by simp [cq]
      have cqe : (q.pgs == p.pgs) = true := by simp [cq]
      repeat ((with_reducible refine WDM_cons ?_; simp only [dw1]; try simp only [dw2, Nat.reduceAdd, Nat.reduceMul, Nat.reduceShiftRight, Nat.reduceMod, Nat.reduceEqDiff]); simp only [core, Nat.reduceAdd, Nat.reduceSub, Nat.reduceMul, Nat.reduceLT, Nat.reduceEqDiff, reduceCtorEq, Nat.reduceLeDiff, Int.reduceLE, Int.reduceLT, Int.reduceToNat, cored, s1, s2, LB1, LB2, lb1, lb2, hk0, hn0, hlt, hld, hld0, cqn, cqe])
      simp only [if_pos cq]
      first | exact ⟨E2, rfl⟩ | exact ⟨E2, trivial⟩ | exact E2
    · have cqn : (q.pgs != p.pgs) = true := by simp [cq]
      have cqe : (q.pgs == p.pgs) = false := by simp [cq]
      repeat ((with_reducible refine WDM_cons ?_; simp only [dw1]; try simp only [dw2, Nat.reduceAdd, Nat.reduceMul, Nat.reduceShiftRight, Nat.reduceMod, Nat.reduceEqDiff]); simp only [core, Nat.reduceAdd, Nat.reduceSub, Nat.reduceMul, Nat.reduceLT, Nat.reduceEqDiff, reduceCtorEq, Nat.reduceLeDiff, Int.reduceLE, Int.reduceLT, Int.reduceToNat, cored, s1, s2, LB1, LB2, lb1, lb2, hk0, hn0, hlt, hld, hld0, cqn, cqe])
      simp only [if_neg cq]
      first | exact ⟨E2, rfl⟩ | exact ⟨E2, trivial⟩ | exact E2
  · have hF : poolF m p.id = none := hf
    rw [hF]
    simp only [core, Nat.reduceAdd, Nat.reduceSub, Nat.reduceMul, Nat.reduceLT, Nat.reduceEqDiff, reduceCtorEq, Nat.reduceLeDiff, Int.reduceLE, Int.reduceLT, Int.reduceToNat]
    rw [WB_regionD [0, 1, 2, 3, 4, 5, 6, 7, 8, 9, 10, 11, 12] 374075900823516023695234415374324642402377951879168 (by kernel_rfl)]
    repeat ((with_reducible refine WDM_cons ?_; simp only [dw1]; try simp only [dw2, Nat.reduceAdd, Nat.reduceMul, Nat.reduceShiftRight, Nat.reduceMod, Nat.reduceEqDiff]); simp only [core, Nat.reduceAdd, Nat.reduceSub, Nat.reduceMul, Nat.reduceLT, Nat.reduceEqDiff, reduceCtorEq, Nat.reduceLeDiff, Int.reduceLE, Int.reduceLT, Int.reduceToNat, cored, s1, s2, LB1, LB2, lb1, lb2])
    first | exact ⟨E2, rfl⟩ | exact ⟨E2, trivial⟩ | exact E2
end Go.Proofs.Ytkgbeihcepociaa.Ex
end

section

set_option linter.unusedSimpArgs false
set_option linter.unusedVariables false
set_option maxRecDepth 10000
set_option maxHeartbeats 4000000
namespace Go.Proofs.Ytkgbeihcepociaa.Ex
open Go
/-- A row of buckets of the run's own. -/
abbrev OwnK (n0 : Nat) (h : AH) (v : AV) (xs : List BktD) : Prop := OwnL RBkt (fun k => n0 ≤ k) n0 h v 92 xs
theorem push_bkt {n0 q : Nat} {h h3 : AH} {v ra rw1 : AV} {xs : List BktD} {x : BktD} {cap : Cap} {e' : TypeId} (ho : OwnK n0 h v xs) (hn0 : n0 ≤ h.n) (e : Ext h.n h h3) (A : h3.at q = some (.cells [.lit (.int .i64 x.id), .lit (.int .i64 x.kind), ra, rw1] e'))
    (r1 : OwnE RInt h.n h3 ra 3 x.items) (r2 : OwnE RInt h.n h3 rw1 3 x.weights) (hi : I64 x.id ∧ I64 x.kind) (hl : (xs.length + 1) * 64 ≤ 140737488355328) :
    ∃ s' h', appendA (tabOf Try.prog NT0) h3 29 29 v (.sl q 0 1 cap) = some (s', h') ∧ OwnK n0 h' s' (xs ++ [x]) ∧ Fr h v h' s' := by
  have e1 := e.1
  obtain ⟨s', h', a, b, c, d⟩ := (ho.ext e (Nat.le_refl _)).snoc (T := tabOf Try.prog NT0) (t := 29) (tx := 29) (y := x) (cap := cap) (by kernel_rfl) (by kernel_rfl) (by kernel_rfl) (zv := .agg [.lit (.int .i64 0), .lit (.int .i64 0), .lit (.slice none 0 0), .lit (.slice none 0 0)]) (by kernel_rfl) (by' := 64) (by kernel_rfl) rfl (by decide) (by decide) A
    (RBkt_is.2 ⟨ra, rw1, rfl, r1.toSl fun k hk => ⟨by omega, OwnL.apart ho hk⟩, r2.toSl fun k hk => ⟨by omega, OwnL.apart ho hk⟩, hi.1, hi.2⟩) (by omega) hl (by omega)
  exact ⟨s', h', a, b, (Fr.ext e).trans ⟨c.1, d⟩⟩
def wbStep (b : BktD) (s : List BktD × Bool) (c : BktD) : List BktD × Bool :=
  let s1 := if s.2 = false ∧ c.id ≤ b.id then (s.1 ++ [b], true) else s
  if c.id = b.id then s1 else (s1.1 ++ [c], s1.2)
def wbL (l : List BktD) (b : BktD) : List BktD :=
  let s := l.foldl (wbStep b) ([], decide (b.items.length = 0))
  if s.2 then s.1 else s.1 ++ [b]
theorem fold_succ {α β : Type} (f : β → α → β) (z : β) {l : List α} {i : Nat} {x : α} (hx : l[i]? = some x) : (l.take (i + 1)).foldl f z = f ((l.take i).foldl f z) x := by
  rw [List.take_add_one, hx, List.foldl_append]
  rfl
end Go.Proofs.Ytkgbeihcepociaa.Ex
end

section

set_option linter.unusedSimpArgs false
set_option linter.unusedVariables false
set_option maxRecDepth 10000
set_option maxHeartbeats 4000000
namespace Go.Proofs.Ytkgbeihcepociaa.Ex
open Go
def growO (l : List OsdD) (n : Nat) : List OsdD := l ++ List.replicate (n + 1 - l.length) osd0
def setO (m : MapD) (n : Nat) (o : OsdD) : MapD := { m with osds := (growO m.osds n).set n o }
def newOs (epoch : Int) (o : OsdD) (kind value : Int) : OsdD :=
  if kind = 1 then ⟨true, true, if o.ex then o.weight else 65536, value, IntKind.i64.wrap (epoch + 1), o.upThru⟩
  else if kind = 2 then ⟨o.ex, false, o.weight, o.boot, o.upFrom, o.upThru⟩
  else if kind = 3 then ⟨o.ex, o.up, value, o.boot, o.upFrom, o.upThru⟩
  else ⟨o.ex, o.up, o.weight, o.boot, o.upFrom, value⟩
def insP : List PoolD → PoolD → List PoolD
  | [], p => [p]
  | q :: r, p => if q.id < p.id then q :: insP r p else if q.id = p.id then p :: r else p :: q :: r
def withB (m : MapD) (b : BktD) : MapD := { m with buckets := wbL m.buckets b }
def mayBktF (m : MapD) (b : BktD) : Int :=
  if b.id < -32 ∨ -1 < b.id then 22 else if (bucketF m b.id).isNone = true ∧ b.items = [] then 2 else if goodF (withB m b) then 0 else 22
def isOs (kind : Int) : Prop := kind = 1 ∨ kind = 2 ∨ kind = 3 ∨ kind = 4
instance (k : Int) : Decidable (isOs k) := by unfold isOs; infer_instance
def chMay (m : MapD) (c : ChD) : Int :=
  if isOs c.kind then (if c.osd < 0 ∨ 8 ≤ c.osd then 22 else mayOsdF m c)
  else if c.kind = 5 then mayPoolF m c.pool
  else if c.kind = 6 then mayBktF m c.bucket
  else if c.kind = 7 then (if c.value < 0 ∨ 3 < c.value then 22 else 0)
  else 22
def chMade (m : MapD) (c : ChD) : MapD :=
  if c.kind = 5 then { m with pools := insP m.pools c.pool }
  else if c.kind = 6 then withB m c.bucket
  else if c.kind = 7 then { m with leaf := c.value }
  else setO m c.osd.toNat (newOs m.epoch (osdG m c.osd) c.kind c.value)
def map0 : MapD := ⟨0, [], [], [], 0⟩
def applyC : MapD → List ChD → MapD × Int
  | m, [] => (m, 0)
  | m, c :: r => if chMay m c = 0 then applyC (chMade m c) r else (map0, chMay m c)
def applyD (m : MapD) (x : IncD) : MapD × Int :=
  if m.epoch = 9223372036854775807 ∨ ¬ x.epoch = m.epoch + 1 then (map0, 126)
  else if (applyC m x.changes).2 = 0 then ({ (applyC m x.changes).1 with epoch := x.epoch }, 0) else (map0, (applyC m x.changes).2)
def playC : List MapD → List IncD → List MapD × Int
  | l, [] => (l, 0)
  | l, x :: r => if (applyD (l.getLastD map0) x).2 = 0 then playC (l ++ [(applyD (l.getLastD map0) x).1]) r else ([], (applyD (l.getLastD map0) x).2)
def playD (l : List IncD) : List MapD × Int := playC [map0] l
/-! What is kept along changes. -/
def OsOk (o : OsdD) : Prop := o.ex = true ∨ (o.boot = 0 ∧ o.upThru = 0)
def Rise (a b : List OsdD) : Prop := a.length ≤ b.length ∧ ∀ k, (a.getD k osd0).boot ≤ (b.getD k osd0).boot ∧ (a.getD k osd0).upThru ≤ (b.getD k osd0).upThru
theorem Rise.refl (a : List OsdD) : Rise a a := ⟨Nat.le_refl _, fun k => ⟨Int.le_refl _, Int.le_refl _⟩⟩
theorem Rise.trans {a b c : List OsdD} (h : Rise a b) (k : Rise b c) : Rise a c := ⟨Nat.le_trans h.1 k.1, fun i => ⟨Int.le_trans (h.2 i).1 (k.2 i).1, Int.le_trans (h.2 i).2 (k.2 i).2⟩⟩
theorem grow_len (l : List OsdD) (n : Nat) : (growO l n).length = max l.length (n + 1) := by
  unfold growO
  rw [List.length_append, List.length_replicate]
  omega
theorem grow_get (l : List OsdD) (n k : Nat) : (growO l n).getD k osd0 = l.getD k osd0 := by
  unfold growO
  rw [List.getD_eq_getElem?_getD, List.getD_eq_getElem?_getD]
  by_cases hk : k < l.length
  · rw [List.getElem?_append_left hk]
  · rw [List.getElem?_append_right (by omega), List.getElem?_eq_none (Nat.not_lt.1 hk)]
    by_cases h2 : k - l.length < n + 1 - l.length
    · rw [List.getElem?_replicate_of_lt h2]
      rfl
    · rw [List.getElem?_eq_none (by rw [List.length_replicate]; omega)]
theorem set_get (l : List OsdD) (n k : Nat) (o : OsdD) : ((growO l n).set n o).getD k osd0 = if k = n then o else l.getD k osd0 := by
  by_cases hk : k = n
  · subst hk
    rw [if_pos rfl, List.getD_eq_getElem?_getD, List.getElem?_set_self (by rw [grow_len]; omega)]
    rfl
  · rw [if_neg hk, ← grow_get l n k, List.getD_eq_getElem?_getD, List.getElem?_set_ne (by omega), ← List.getD_eq_getElem?_getD]
theorem set_len (l : List OsdD) (n : Nat) (o : OsdD) : ((growO l n).set n o).length = max l.length (n + 1) := by rw [List.length_set, grow_len]
def OsAll (l : List OsdD) : Prop := ∀ k, OsOk (l.getD k osd0)
theorem os_all0 : OsAll [] := fun k => .inr ⟨rfl, rfl⟩
theorem osdG_get {m : MapD} {n : Int} (h : 0 ≤ n) : osdG m n = m.osds.getD n.toNat osd0 := by unfold osdG; rw [if_pos h]
theorem newOs_ok {e : Int} {o : OsdD} {kind value : Int} (ki : isOs kind) (hk : OsOk o) (hm : mayOs e o kind value = 0) : OsOk (newOs e o kind value) ∧ o.boot ≤ (newOs e o kind value).boot ∧ o.upThru ≤ (newOs e o kind value).upThru := by
  obtain ⟨ex, up, w, b, uf, ut⟩ := o
  unfold OsOk at hk ⊢
  unfold mayOs at hm
  unfold newOs
  rcases ki with rfl | rfl | rfl | rfl <;> cases ex <;> simp at hm hk ⊢
  all_goals (try omega)
  all_goals (try (split at hm <;> (try cases hm)))
  all_goals (try omega)
  all_goals (try (split at hm <;> (try cases hm)))
  all_goals (try omega)
  all_goals (try (split at hm <;> (try cases hm)))
  all_goals (try omega)
theorem made_rise {m : MapD} {c : ChD} (h : OsAll m.osds) (hm : chMay m c = 0) : OsAll (chMade m c).osds ∧ Rise m.osds (chMade m c).osds := by
  unfold chMay at hm
  unfold chMade
  by_cases k5 : c.kind = 5
  · rw [if_pos k5]; exact ⟨h, Rise.refl _⟩
  by_cases k6 : c.kind = 6
  · rw [if_neg k5, if_pos k6]; exact ⟨h, Rise.refl _⟩
  by_cases k7 : c.kind = 7
  · rw [if_neg k5, if_neg k6, if_pos k7]; exact ⟨h, Rise.refl _⟩
  rw [if_neg k5, if_neg k6, if_neg k7] at hm ⊢
  by_cases ki : isOs c.kind
  · rw [if_pos ki] at hm
    by_cases ho : c.osd < 0 ∨ 8 ≤ c.osd
    · rw [if_pos ho] at hm; cases hm
    rw [if_neg ho] at hm
    have h0 : 0 ≤ c.osd := by omega
    unfold mayOsdF at hm
    rw [osdG_get h0] at hm ⊢
    have hk := h c.osd.toNat
    obtain ⟨o, ho'⟩ : ∃ o, o = m.osds.getD c.osd.toNat osd0 := ⟨_, rfl⟩
    rw [← ho'] at hm hk ⊢
    have key := newOs_ok (e := m.epoch) ki hk hm
    refine ⟨fun k => ?_, ?_, fun k => ?_⟩
    · show OsOk (((growO m.osds _).set _ _).getD k osd0)
      rw [set_get]
      split
      · exact key.1
      · exact h k
    · show _ ≤ ((growO m.osds _).set _ _).length
      rw [set_len]; omega
    · show _ ≤ (((growO m.osds _).set _ _).getD k osd0).boot ∧ _ ≤ (((growO m.osds _).set _ _).getD k osd0).upThru
      rw [set_get]
      split
      · rename_i hh; subst hh; rw [← ho']; exact key.2
      · exact ⟨Int.le_refl _, Int.le_refl _⟩
  · rw [if_neg ki] at hm
    cases hm
theorem kindF_congr {m n : MapD} (hb : m.buckets = n.buckets) : kindF m = kindF n := by
  funext i
  unfold kindF bucketG bucketF
  rw [hb]
theorem good_congr {m n : MapD} (hb : m.buckets = n.buckets) (hl : m.leaf = n.leaf) : goodF m = goodF n := by
  have h1 : itemOk m = itemOk n := by
    funext its b k
    unfold itemOk
    rw [kindF_congr hb]
  have h2 : bOk m = bOk n := by
    funext i b
    unfold bOk hdOk itsTo
    rw [h1, hb]
  unfold goodF
  rw [h2, hb, hl]
theorem good_leaf {m : MapD} {v : Int} (h : goodF m = true) (h0 : ¬ (v < 0 ∨ 3 < v)) : goodF { m with leaf := v } = true := by
  have h1 : goodF { m with leaf := v } = (decide (0 ≤ v) && decide (v ≤ 3) && (List.range m.buckets.length).all (fun i => bOk m i (m.buckets.getD i bkt0))) := by
    unfold goodF
    congr 1
  rw [h1]
  unfold goodF at h
  simp only [Bool.and_eq_true, decide_eq_true_eq] at h ⊢
  exact ⟨⟨by omega, by omega⟩, h.2⟩
theorem good_w {m : MapD} (h : goodF m = true) {b : BktD} (hb : b ∈ m.buckets) : b.items.length = b.weights.length := by
  unfold goodF at h
  simp only [Bool.and_eq_true, List.all_eq_true] at h
  obtain ⟨i, hi, rfl⟩ := List.mem_iff_getElem.1 hb
  have := h.2 i (List.mem_range.2 hi)
  rw [List.getD_eq_getElem?_getD, List.getElem?_eq_getElem hi] at this
  unfold bOk hdOk at this
  simp only [Bool.and_eq_true, Option.getD_some, beq_iff_eq] at this
  exact this.1.1.2
theorem wbStep_ok {b : BktD} {s : List BktD × Bool} {c : BktD} {P : BktD → Prop} (hb : P b) (hc : P c) (hs : ∀ x ∈ s.1, P x) : ∀ x ∈ (wbStep b s c).1, P x := by
  unfold wbStep
  intro x hx
  dsimp only at hx
  by_cases h1 : s.2 = false ∧ c.id ≤ b.id
  · rw [if_pos h1] at hx
    by_cases h2 : c.id = b.id
    · rw [if_pos h2] at hx
      simp only [List.mem_append, List.mem_singleton] at hx
      rcases hx with hx | rfl
      · exact hs x hx
      · exact hb
    · rw [if_neg h2] at hx
      simp only [List.mem_append, List.mem_singleton] at hx
      rcases hx with (hx | rfl) | rfl
      · exact hs x hx
      · exact hb
      · exact hc
  · rw [if_neg h1] at hx
    by_cases h2 : c.id = b.id
    · rw [if_pos h2] at hx
      exact hs x hx
    · rw [if_neg h2] at hx
      simp only [List.mem_append, List.mem_singleton] at hx
      rcases hx with hx | rfl
      · exact hs x hx
      · exact hc
theorem wbFold_ok {b : BktD} {P : BktD → Prop} (hb : P b) : ∀ (l : List BktD) (s : List BktD × Bool), (∀ x ∈ l, P x) → (∀ x ∈ s.1, P x) → ∀ x ∈ (l.foldl (wbStep b) s).1, P x
  | [], s, _, hs => hs
  | c :: r, s, hl, hs => wbFold_ok hb r _ (fun x hx => hl x (by simp [hx])) (wbStep_ok hb (hl c (by simp)) hs)
theorem wbL_ok {l : List BktD} {b : BktD} {P : BktD → Prop} (hb : P b) (hl : ∀ x ∈ l, P x) : ∀ x ∈ wbL l b, P x := by
  unfold wbL
  have h := wbFold_ok hb l ([], decide (b.items.length = 0)) hl (fun x hx => by cases hx)
  intro x hx
  dsimp only at hx
  split at hx
  · exact h x hx
  · rw [List.mem_append, List.mem_singleton] at hx
    rcases hx with hx | rfl
    · exact h x hx
    · exact hb
def nB : Bool → Nat
  | true => 0
  | false => 1
theorem nB_le (p : Bool) : nB p ≤ 1 := by cases p <;> simp [nB]
theorem wbStep_len {b : BktD} {s : List BktD × Bool} {c : BktD} : (wbStep b s c).1.length + nB (wbStep b s c).2 ≤ s.1.length + nB s.2 + 1 := by
  obtain ⟨l, p⟩ := s
  unfold wbStep
  dsimp only
  by_cases h1 : p = false ∧ c.id ≤ b.id
  · rw [if_pos h1, h1.1]
    by_cases h2 : c.id = b.id
    · rw [if_pos h2]; simp [nB]
    · rw [if_neg h2]; simp [nB]
  · rw [if_neg h1]
    by_cases h2 : c.id = b.id
    · rw [if_pos h2]; simp
    · rw [if_neg h2]; simp; omega
theorem wbFold_len {b : BktD} : ∀ (l : List BktD) (s : List BktD × Bool), (l.foldl (wbStep b) s).1.length + nB (l.foldl (wbStep b) s).2 ≤ s.1.length + nB s.2 + l.length
  | [], s => Nat.le_refl _
  | c :: r, s => by
    have h1 := wbFold_len (b := b) r (wbStep b s c)
    have h2 := wbStep_len (b := b) (s := s) (c := c)
    rw [List.foldl_cons, List.length_cons]
    omega
theorem wbL_len (l : List BktD) (b : BktD) : (wbL l b).length ≤ l.length + 1 := by
  unfold wbL
  have h := wbFold_len (b := b) l ([], decide (b.items.length = 0))
  have h0 := nB_le (decide (b.items.length = 0))
  simp only [List.length_nil] at h
  dsimp only
  split
  · omega
  · rename_i hh
    have hh : (l.foldl (wbStep b) ([], decide (b.items.length = 0))).2 = false := by simpa using hh
    rw [hh] at h
    rw [List.length_append, List.length_singleton]
    have h1 : nB false = 1 := rfl
    omega
theorem insP_len : ∀ (l : List PoolD) (p : PoolD), (insP l p).length ≤ l.length + 1
  | [], p => Nat.le_refl _
  | q :: r, p => by
    have := insP_len r p
    unfold insP
    split
    · simp only [List.length_cons]; omega
    · split <;> simp only [List.length_cons] <;> omega
structure StOk (m : MapD) (k : Nat) : Prop where
  os : OsAll m.osds
  good : goodF m = true
  no : m.osds.length ≤ 8
  np : m.pools.length ≤ k
  nb : m.buckets.length ≤ k
  ni : ∀ b ∈ m.buckets, b.items.length ≤ 300 ∧ b.weights.length ≤ 300
theorem made_st {m : MapD} {c : ChD} {k : Nat} (h : StOk m k) (hi : c.bucket.items.length ≤ 300) (hm : chMay m c = 0) : StOk (chMade m c) (k + 1) := by
  have hr := made_rise h.os hm
  have hg : goodF (chMade m c) = true := by
    unfold chMay at hm
    unfold chMade
    by_cases k5 : c.kind = 5
    · rw [if_pos k5]; exact (good_congr rfl rfl).trans h.good
    by_cases k6 : c.kind = 6
    · rw [if_neg k5, if_pos k6]
      rw [if_neg (by unfold isOs; omega), if_neg k5, if_pos k6] at hm
      unfold mayBktF at hm
      split at hm
      · cases hm
      · split at hm
        · cases hm
        · split at hm
          · rename_i hh; exact hh
          · cases hm
    by_cases k7 : c.kind = 7
    · rw [if_neg k5, if_neg k6, if_pos k7]
      rw [if_neg (by unfold isOs; omega), if_neg k5, if_neg k6, if_pos k7] at hm
      refine good_leaf h.good fun hh => ?_
      rw [if_pos hh] at hm
      cases hm
    rw [if_neg k5, if_neg k6, if_neg k7]
    exact (good_congr rfl rfl).trans h.good
  refine ⟨hr.1, hg, ?_, ?_, ?_, ?_⟩
  · unfold chMay at hm
    have := h.no
    unfold chMade
    split
    · exact h.no
    split
    · exact h.no
    split
    · exact h.no
    · show ((growO _ _).set _ _).length ≤ _
      rw [set_len]
      by_cases ki : isOs c.kind
      · rw [if_pos ki] at hm
        by_cases ho : c.osd < 0 ∨ 8 ≤ c.osd
        · rw [if_pos ho] at hm; cases hm
        · omega
      · rw [if_neg ki, if_neg ‹_›, if_neg ‹_›, if_neg ‹_›] at hm
        cases hm
  · unfold chMade
    have := insP_len m.pools c.pool
    have := h.np
    split
    · show (insP _ _).length ≤ _; omega
    split
    · show m.pools.length ≤ _; omega
    split
    · show m.pools.length ≤ _; omega
    · show m.pools.length ≤ _; omega
  · unfold chMade
    have := wbL_len m.buckets c.bucket
    have := h.nb
    split
    · show m.buckets.length ≤ _; omega
    split
    · show (wbL _ _).length ≤ _; omega
    split
    · show m.buckets.length ≤ _; omega
    · show m.buckets.length ≤ _; omega
  · have key : ∀ b ∈ (chMade m c).buckets, b.items.length ≤ 300 := by
      unfold chMade
      split
      · exact fun b hb => (h.ni b hb).1
      split
      · exact wbL_ok (P := fun b => b.items.length ≤ 300) hi fun b hb => (h.ni b hb).1
      split
      · exact fun b hb => (h.ni b hb).1
      · exact fun b hb => (h.ni b hb).1
    exact fun b hb => ⟨key b hb, by rw [← good_w hg hb]; exact key b hb⟩
theorem made_epoch (m : MapD) (c : ChD) : (chMade m c).epoch = m.epoch := by
  unfold chMade
  split
  · rfl
  split
  · rfl
  split <;> rfl
theorem applyC_st : ∀ {l : List ChD} {m : MapD} {k : Nat}, StOk m k → (∀ c ∈ l, c.bucket.items.length ≤ 300) → (applyC m l).2 = 0 → StOk (applyC m l).1 (k + l.length) ∧ Rise m.osds (applyC m l).1.osds ∧ (applyC m l).1.epoch = m.epoch
  | [], m, k, h, _, _ => ⟨h, Rise.refl _, rfl⟩
  | c :: r, m, k, h, hi, h0 => by
    unfold applyC at h0 ⊢
    by_cases hm : chMay m c = 0
    · rw [if_pos hm] at h0 ⊢
      have h1 := made_st h (hi c (by simp)) hm
      obtain ⟨a, b, d⟩ := applyC_st h1 (fun c hc => hi c (by simp [hc])) h0
      refine ⟨?_, (made_rise h.os hm).2.trans b, d.trans (made_epoch m c)⟩
      rw [List.length_cons, show k + (r.length + 1) = k + 1 + r.length by omega]
      exact a
    · rw [if_neg hm] at h0
      exact absurd h0 hm
theorem StOk.mono {m : MapD} {k k' : Nat} (h : StOk m k) (hk : k ≤ k') : StOk m k' := ⟨h.os, h.good, h.no, by have := h.np; omega, by have := h.nb; omega, h.ni⟩
theorem applyD_st {m : MapD} {x : IncD} {k : Nat} (h : StOk m k) (hi : ∀ c ∈ x.changes, c.bucket.items.length ≤ 300) (h0 : (applyD m x).2 = 0) :
    StOk (applyD m x).1 (k + x.changes.length) ∧ Rise m.osds (applyD m x).1.osds ∧ (applyD m x).1.epoch = m.epoch + 1 := by
  unfold applyD at h0 ⊢
  by_cases he : m.epoch = 9223372036854775807 ∨ ¬ x.epoch = m.epoch + 1
  · rw [if_pos he] at h0; cases h0
  rw [if_neg he] at h0 ⊢
  by_cases ha : (applyC m x.changes).2 = 0
  · rw [if_pos ha] at h0 ⊢
    obtain ⟨a, b, c⟩ := applyC_st h hi ha
    exact ⟨⟨a.os, (good_congr rfl rfl).trans a.good, a.no, a.np, a.nb, a.ni⟩, b, by show x.epoch = _; omega⟩
  · rw [if_neg ha] at h0
    exact absurd h0 ha
structure PlOk (l : List MapD) (k : Nat) : Prop where
  ne : l ≠ []
  st : ∀ (i : Nat) m, l[i]? = some m → m.epoch = (i : Int) ∧ StOk m k
  ri : ∀ (i : Nat) m m', l[i]? = some m → l[i + 1]? = some m' → Rise m.osds m'.osds
theorem plOk0 : PlOk [map0] 0 := by
  refine ⟨by simp, fun i m hm => ?_, fun i m m' _ h2 => ?_⟩
  · cases i with
    | zero => cases hm; exact ⟨rfl, os_all0, rfl, Nat.zero_le _, Nat.le_refl _, Nat.le_refl _, fun b hb => by cases hb⟩
    | succ i => simp at hm
  · simp at h2
theorem last_get {l : List MapD} (h : l ≠ []) : l[l.length - 1]? = some (l.getLastD map0) := by
  rw [← List.getLast?_eq_getElem?, List.getLastD_eq_getLast?]
  cases hq : l.getLast? with
  | none => exact absurd (List.getLast?_eq_none_iff.1 hq) h
  | some x => rfl
theorem PlOk.snoc {l : List MapD} {k : Nat} (h : PlOk l k) {x : IncD} (hi : ∀ c ∈ x.changes, c.bucket.items.length ≤ 300) (h0 : (applyD (l.getLastD map0) x).2 = 0) : PlOk (l ++ [(applyD (l.getLastD map0) x).1]) (k + x.changes.length) := by
  have hl := last_get h.ne
  have hp : 0 < l.length := List.length_pos_iff.2 h.ne
  obtain ⟨he, hs⟩ := h.st _ _ hl
  obtain ⟨a, b, c⟩ := applyD_st hs hi h0
  refine ⟨by simp, fun i m hm => ?_, fun i m m' h1 h2 => ?_⟩
  · by_cases hi : i < l.length
    · rw [List.getElem?_append_left hi] at hm
      exact ⟨(h.st i m hm).1, (h.st i m hm).2.mono (by omega)⟩
    · by_cases hi2 : i = l.length
      · subst hi2
        rw [List.getElem?_append_right (Nat.le_refl _), Nat.sub_self] at hm
        cases hm
        exact ⟨by omega, a⟩
      · rw [List.getElem?_eq_none (by simp; omega)] at hm
        cases hm
  · by_cases hi : i + 1 < l.length
    · rw [List.getElem?_append_left (by omega)] at h1
      rw [List.getElem?_append_left hi] at h2
      exact h.ri i m m' h1 h2
    · by_cases hi2 : i + 1 = l.length
      · rw [List.getElem?_append_left (by omega)] at h1
        rw [List.getElem?_append_right (by omega), show i + 1 - l.length = 0 by omega] at h2
        cases h2
        rw [show l.length - 1 = i by omega, h1] at hl
        cases hl
        exact b
      · rw [List.getElem?_eq_none (by simp; omega)] at h2
        cases h2
theorem playC_ok : ∀ {r : List IncD} {l : List MapD} {k : Nat}, PlOk l k → (∀ x ∈ r, ∀ c ∈ x.changes, c.bucket.items.length ≤ 300) → (playC l r).2 = 0 → PlOk (playC l r).1 (k + (r.map fun x => x.changes.length).sum)
  | [], l, k, h, _, _ => h
  | x :: r, l, k, h, hi, h0 => by
    unfold playC at h0 ⊢
    by_cases hm : (applyD (l.getLastD map0) x).2 = 0
    · rw [if_pos hm] at h0 ⊢
      have := playC_ok (h.snoc (hi x (by simp)) hm) (fun x hx => hi x (by simp [hx])) h0
      rw [List.map_cons, List.sum_cons, ← Nat.add_assoc]
      exact this
    · rw [if_neg hm] at h0
      exact absurd h0 hm
theorem playC_len : ∀ {r : List IncD} {l : List MapD}, (playC l r).2 = 0 → (playC l r).1.length = l.length + r.length
  | [], l, _ => rfl
  | x :: r, l, h0 => by
    unfold playC at h0 ⊢
    by_cases hm : (applyD (l.getLastD map0) x).2 = 0
    · rw [if_pos hm] at h0 ⊢
      rw [playC_len h0, List.length_append, List.length_singleton, List.length_cons]
      omega
    · rw [if_neg hm] at h0
      exact absurd h0 hm
/-! Pools put in: the two ways. -/
def pdStep (p : PoolD) (s : List PoolD × Bool) (q : PoolD) : List PoolD × Bool :=
  if s.2 = false ∧ p.id ≤ q.id then (if q.id = p.id then (s.1 ++ [p], true) else (s.1 ++ [p] ++ [q], true)) else (s.1 ++ [q], s.2)
def pdL (l : List PoolD) (p : PoolD) : List PoolD := if (l.foldl (pdStep p) ([], false)).2 then (l.foldl (pdStep p) ([], false)).1 else (l.foldl (pdStep p) ([], false)).1 ++ [p]
theorem pdFold_true (p : PoolD) : ∀ (l a : List PoolD), l.foldl (pdStep p) (a, true) = (a ++ l, true)
  | [], a => by simp
  | q :: r, a => by
    rw [List.foldl_cons, show pdStep p (a, true) q = (a ++ [q], true) by unfold pdStep; simp, pdFold_true p r]
    simp
theorem pdFold_false (p : PoolD) : ∀ (l a : List PoolD), (if (l.foldl (pdStep p) (a, false)).2 then (l.foldl (pdStep p) (a, false)).1 else (l.foldl (pdStep p) (a, false)).1 ++ [p]) = a ++ insP l p
  | [], a => by simp [insP]
  | q :: r, a => by
    rw [List.foldl_cons]
    unfold insP
    by_cases h : q.id < p.id
    · rw [if_pos h, show pdStep p (a, false) q = (a ++ [q], false) by unfold pdStep; rw [if_neg (by simp; omega)], pdFold_false p r]
      simp
    · rw [if_neg h]
      by_cases h2 : q.id = p.id
      · rw [if_pos h2, show pdStep p (a, false) q = (a ++ [p], true) by unfold pdStep; rw [if_pos ⟨rfl, by omega⟩, if_pos h2], pdFold_true]
        simp
      · rw [if_neg h2, show pdStep p (a, false) q = (a ++ [p] ++ [q], true) by unfold pdStep; rw [if_pos ⟨rfl, by omega⟩, if_neg h2], pdFold_true]
        simp
theorem pdL_ins (l : List PoolD) (p : PoolD) : pdL l p = insP l p := by
  have := pdFold_false p l []
  rw [List.nil_append] at this
  exact this
theorem insP_lt {p : PoolD} : ∀ {l : List PoolD} {i : Nat}, i ≤ l.length → (∀ j, j < i → (l.getD j pool0).id < p.id) → insP l p = l.take i ++ insP (l.drop i) p
  | l, 0, _, _ => by simp
  | [], i + 1, h, _ => by simp at h
  | q :: r, i + 1, h, hj => by
    have h0 := hj 0 (by omega)
    rw [List.getD_cons_zero] at h0
    rw [List.take_succ_cons, List.drop_succ_cons]
    conv => lhs; unfold insP
    rw [if_pos h0, insP_lt (i := i) (by simp at h; omega) fun j hj' => by
      have := hj (j + 1) (by omega)
      rw [List.getD_cons_succ] at this
      exact this]
    rfl
theorem insP_end {p : PoolD} {l : List PoolD} (hj : ∀ j, j < l.length → (l.getD j pool0).id < p.id) : insP l p = l ++ [p] := by
  rw [insP_lt (Nat.le_refl _) hj, List.take_length, List.drop_length]
  rfl
theorem insP_eq {p q : PoolD} {l : List PoolD} {i : Nat} (hi : l[i]? = some q) (hj : ∀ j, j < i → (l.getD j pool0).id < p.id) (h : q.id = p.id) : insP l p = l.set i p := by
  have hlt := (List.getElem?_eq_some_iff.1 hi).1
  have he := (List.getElem?_eq_some_iff.1 hi).2
  rw [insP_lt (by omega) hj, List.drop_eq_getElem_cons hlt, he]
  unfold insP
  rw [if_neg (by omega), if_pos h, List.set_eq_take_append_cons_drop, if_pos hlt]
theorem insP_gt {p q : PoolD} {l : List PoolD} {i : Nat} (hi : l[i]? = some q) (hj : ∀ j, j < i → (l.getD j pool0).id < p.id) (h : p.id < q.id) : insP l p = l.take i ++ p :: l.drop i := by
  have hlt := (List.getElem?_eq_some_iff.1 hi).1
  have he := (List.getElem?_eq_some_iff.1 hi).2
  rw [insP_lt (by omega) hj]
  congr 1
  rw [List.drop_eq_getElem_cons hlt, he]
  unfold insP
  rw [if_neg (by omega), if_neg (by omega)]
end Go.Proofs.Ytkgbeihcepociaa.Ex
end

section

set_option linter.unusedSimpArgs false
set_option linter.unusedVariables false
namespace Go.Proofs.Ytkgbeihcepociaa.Ex
open Go
theorem IsSl.ofAt {α : Type} {R : Rep α} {F : Nat → Prop} {h : AH} {p : Nat} {e : TypeId} {L : List (List AV)} {xs : List α} {n : Nat} (hat : h.at p = some (.cells L.flatten e)) (hF : F p) (he : Els R F h L xs) (hn : xs.length = n) : IsSl R F h (.sl p 0 n (.kn n)) xs := by
  subst hn
  have hl := flat_len (z := R.z) he.lens
  refine .mk ⟨he.lens, .inr ⟨p, 0, .kn xs.length, L.flatten, by rw [he.1], by unfold getR; rw [hat], ?_⟩⟩ (fun b off n cap e => by cases e; exact hF) (fun b off n cap e => by cases e; exact Nat.le_refl _) he
  unfold cut
  rw [if_pos (by rw [hl]; omega), List.drop_zero, ← hl, List.take_length]
end Go.Proofs.Ytkgbeihcepociaa.Ex
end

section

set_option linter.unusedSimpArgs false
set_option linter.unusedVariables false
set_option maxRecDepth 10000
set_option maxHeartbeats 4000000
namespace Go.Proofs.Ytkgbeihcepociaa.Ex
open Go
def bz4 : List AV := [.lit (.int .i64 0), .lit (.int .i64 0), .lit (.slice none 0 0), .lit (.slice none 0 0)]
def zK (n : Nat) : List AV := rep bz4 n
section
variable {d : Option Nat} {ty ps af : _} {g : _} {t : TM} {h : AH}
theorem a_mkB {i : Nat} {n : Nat} (hi : t.get i = .lit (.int .i64 n)) (hn : n ≤ 65536) :
    aop Try.prog (tabOf Try.prog NT0) ⟨d, .makeSlice 29 (.tmp i) (.tmp i), ty, ps, af, g⟩ t h = some (.val (.sl h.n 0 n (.kn n)), h.push (.cells (zK n) 92)) := by
  have e1 : und (tabOf Try.prog NT0) 29 = some (.slice 92) := by kernel_rfl
  have h00 : (tabOf Try.prog NT0 92).map (fun i => (i.bytes, i.zero.cells, i.size)) = some (64, bz4, 4) := by kernel_rfl
  obtain ⟨i0, h0, he⟩ := Option.map_eq_some_iff.1 h00
  obtain ⟨hb, hz, hs⟩ : i0.bytes = 64 ∧ i0.zero.cells = bz4 ∧ i0.size = 4 := by
    simp only [Prod.mk.injEq] at he
    exact he
  show aMakeSlice _ t h _ _ _ = _
  unfold aMakeSlice
  rw [e1, show evalA t (.tmp i) = some (t.get i) from rfl, hi]
  simp only [Option.bind_some, natA_int]
  rw [if_pos (Int.natCast_nonneg n)]
  simp only [Int.toNat_natCast, h0, hb, hz, hs]
  rw [if_pos (by simp; refine ⟨⟨by omega, by omega⟩, rfl⟩)]
  rfl
end
theorem zK_succ (n : Nat) : zK (n + 1) = bz4 ++ zK n := rfl
theorem zK_len (n : Nat) : (zK n).length = n * 4 := by
  induction n with
  | zero => rfl
  | succ n ih => rw [zK_succ, List.length_append, ih]; show 4 + _ = _; omega
theorem put_row {K : List (List AV)} {i n : Nat} (hK : K.length = i) (hk4 : ∀ c ∈ K, c.length = 4) (hi : i < n) (a b c d : AV) :
    put (K.flatten ++ zK (n - i)) (i * 4) [a, b, c, d] = some ((K ++ [[a, b, c, d]]).flatten ++ zK (n - (i + 1))) := by
  have hl : K.flatten.length = i * 4 := by rw [flat_len hk4, hK]
  have hz : n - i = (n - (i + 1)) + 1 := by omega
  unfold put
  rw [if_pos (by rw [List.length_append, hl, zK_len]; show i * 4 + 4 ≤ _; omega)]
  congr 1
  rw [List.take_left' hl, hz, zK_succ, ← List.append_assoc, List.drop_left' (by rw [List.length_append, hl]; rfl)]
  simp
/-- A map of the run's own, with rows from n0 on, none of them p0. -/
structure OwnMp (n0 p0 : Nat) (h : AH) (m : MapD) (vo vp vb : AV) : Prop where
  o : OwnE ROsd n0 h vo 43 m.osds
  p : OwnE RPool n0 h vp 94 m.pools
  b : IsSl RBkt (fun k => n0 ≤ k ∧ Apart vo k ∧ Apart vp k ∧ k ≠ p0) h vb m.buckets
  ao : Apart vo p0
  ap : Apart vp p0
theorem OwnMp.mono {n0 n1 p0 : Nat} {h : AH} {m : MapD} {vo vp vb : AV} (hm : OwnMp n0 p0 h m vo vp vb) (hn : n1 ≤ n0) : OwnMp n1 p0 h m vo vp vb :=
  ⟨hm.o.mono hn, hm.p.mono hn, hm.b.lift fun b hb _ => ⟨rfl, by omega, hb.2⟩, hm.ao, hm.ap⟩
theorem OwnMp.at {n0 p0 : Nat} {F : Nat → Prop} {h : AH} {m : MapD} {vo vp vb : AV} (hm : OwnMp n0 p0 h m vo vp vb) (hF : ∀ k, n0 ≤ k → F k) : MpAt F h m vo vp vb :=
  ⟨hm.o.toSl hF, hm.p.toSl hF, hm.b.lift fun b hb _ => ⟨rfl, hF b hb.1⟩⟩
theorem OwnMp.ext {n0 n1 p0 : Nat} {h h' : AH} {m : MapD} {vo vp vb : AV} (hm : OwnMp n0 p0 h m vo vp vb) (he : Ext n1 h h') (hn : h.n ≤ n1) : OwnMp n0 p0 h' m vo vp vb :=
  ⟨hm.o.ext he hn, hm.p.ext he hn, hm.b.ext he hn, hm.ao, hm.ap⟩
/-- A block from outside. -/
theorem OwnMp.lt {n0 p0 p1 : Nat} {h : AH} {m : MapD} {vo vp vb : AV} (hm : OwnMp n0 p0 h m vo vp vb) (hn : h.n ≤ p1) : OwnMp n0 p1 h m vo vp vb :=
  ⟨hm.o, hm.p, hm.b.lift fun b hb hlt => ⟨rfl, hb.1, hb.2.1, hb.2.2.1, by omega⟩, hm.o.apart hn, hm.p.apart hn⟩
theorem OwnL.apartLt {α : Type} {R : Rep α} {G : Nat → Prop} {n0 : Nat} {h : AH} {v : AV} {e : TypeId} {xs : List α} (ho : OwnL R G n0 h v e xs) {b : Nat} (hb : b < n0) : Apart v b := fun off n cap hv => by
  obtain ⟨L, h1, h2⟩ := ho
  rcases h1.2 with ⟨hh, _⟩ | ⟨p, hh, hp, hat⟩
  · rw [hh] at hv; cases hv
  · rw [hh] at hv; cases hv; omega
theorem OwnE.apartLt {α : Type} {R : Rep α} {n0 b : Nat} {h : AH} {d : AV} {e : TypeId} {xs : List α} (hd : OwnE R n0 h d e xs) (hb : b < n0) : Apart d b := by
  rcases hd with ho | ⟨rfl, p, hp, rfl, hat⟩
  · exact OwnL.apartLt ho hb
  · exact fun off n cap e => by cases e; omega
theorem OwnE.put_ap {α : Type} {R : Rep α} {n0 p : Nat} {h : AH} {d : AV} {e : TypeId} {xs : List α} {x : AB} (hd : OwnE R n0 h d e xs) (hp : Apart d p) : OwnE R n0 (h.put p x) d e xs := by
  rcases hd with ho | ⟨rfl, q, hq, rfl, hat⟩
  · refine .inl (ho.lift (fun b off n cap ev => ?_) (fun b hb => hb.elim))
    exact at_put_ne _ (fun hh => hp off n cap (hh ▸ ev))
  · exact .inr ⟨rfl, q, hq, rfl, (at_put_ne _ (fun hh => hp 0 0 (.kn 0) (by rw [hh]))).trans hat⟩
theorem copyM_x {F : Nat → Prop} {H : AH} {m : MapD} {vo vp vb : AV} (hm : MpAt F H m vo vp vb) (hok : OkMp m) (hb : m.buckets.length ≤ 65536) :
    WC Try.prog (tabOf Try.prog NT0) S0 70 [mpV m vo vp vb] H fun r h' => Ext H.n H h' ∧ ∃ ro rp rb, r = mpV m ro rp rb ∧ ∀ p0, p0 < H.n → OwnMp H.n p0 h' m ro rp rb := by
  refine WC_fn Try.func70 rfl rfl ?_
  obtain ⟨⟨lo, -⟩, ⟨lp, -⟩, lb, hbk⟩ := hok
  have o1 := hm.o.one
  have o2 := hm.p.one
  have o3 := hm.b.one
  have s1 := hm.o.isSl
  have s2 := hm.p.isSl
  have s3 := hm.b.isSl
  simp only [core, Nat.reduceAdd, Nat.reduceSub, Nat.reduceMul, Nat.reduceLT, Nat.reduceEqDiff, reduceCtorEq, Nat.reduceLeDiff, Int.reduceLE, Int.reduceLT, Int.reduceToNat, Try.ntmps70, mpV, o1, o2, o3]
  obtain ⟨hp, hhp⟩ : ∃ hp, hp = (H.push (.cells [.lit (.int .i64 m.epoch), vo, vp, vb, .lit (.int .i64 m.leaf)] 31)).push (.cells [.lit (.int .i64 0), .lit (.slice none 0 0), .lit (.slice none 0 0), .lit (.slice none 0 0), .lit (.int .i64 0)] 31) := ⟨_, rfl⟩
  have EP : Ext H.n H hp := hhp ▸ ((Ext.refl _ _).push _ (Nat.le_refl _)).push _ (by rw [n_push]; omega)
  have P0 : hp.at H.n = some (.cells [.lit (.int .i64 m.epoch), vo, vp, vb, .lit (.int .i64 m.leaf)] 31) := hhp ▸ (at_push_lt _ (by rw [n_push]; omega)).trans (at_push_n _ _)
  have Z0 : hp.at (H.n + 1) = some (.cells [.lit (.int .i64 0), .lit (.slice none 0 0), .lit (.slice none 0 0), .lit (.slice none 0 0), .lit (.int .i64 0)] 31) := hhp ▸ at_push_n _ _
  have nP : hp.n = H.n + 2 := by rw [hhp, n_push, n_push]
  have LP0 := ld_at (T := tabOf Try.prog NT0) P0
  rw [← hhp]
  clear hhp
  rw [WB_regionD [0, 1, 3, 4, 2, 6, 5, 7, 8, 9] 632895786129742360360258634752 (by kernel_rfl)]
  repeat ((with_reducible refine WDM_cons ?_; simp only [dw1]; try simp only [dw2, Nat.reduceAdd, Nat.reduceMul, Nat.reduceShiftRight, Nat.reduceMod, Nat.reduceEqDiff]); simp only [core, Nat.reduceAdd, Nat.reduceSub, Nat.reduceMul, Nat.reduceLT, Nat.reduceEqDiff, reduceCtorEq, Nat.reduceLeDiff, Int.reduceLE, Int.reduceLT, Int.reduceToNat, cored, LP0, s1, s2, s3])
  refine (cloneO_o (hm.o.ext EP (Nat.le_refl _)) lo).mono ?_
  rintro ro h3 ⟨e3, ro1⟩
  have P3 := (e3.2 _ (at_lt P0)).trans P0
  have Z3 := (e3.2 _ (at_lt Z0)).trans Z0
  have LP3 := ld_at (T := tabOf Try.prog NT0) P3
  have E3 := EP.step e3
  have r1 := (ro1.toSl (F := fun _ => True) (fun _ _ => trivial)).isSl
  have r2 := (ro1.toSl (F := fun _ => True) (fun _ _ => trivial)).one
  repeat ((with_reducible refine WDM_cons ?_; simp only [dw1]; try simp only [dw2, Nat.reduceAdd, Nat.reduceMul, Nat.reduceShiftRight, Nat.reduceMod, Nat.reduceEqDiff]); simp only [core, Nat.reduceAdd, Nat.reduceSub, Nat.reduceMul, Nat.reduceLT, Nat.reduceEqDiff, reduceCtorEq, Nat.reduceLeDiff, Int.reduceLE, Int.reduceLT, Int.reduceToNat, cored, LP3, s1, s2, s3, r1, r2])
  refine (cloneP_o (hm.p.ext E3 (Nat.le_refl _)) lp).mono ?_
  rintro rp h4 ⟨e4, rp1⟩
  have P4 := (e4.2 _ (at_lt P3)).trans P3
  have Z4 := (e4.2 _ (at_lt Z3)).trans Z3
  have LP4 := ld_at (T := tabOf Try.prog NT0) P4
  have E4 := E3.step e4
  have l4 := at_lt P4
  have l6 := at_lt Z4
  have l3 : hp.n ≤ h3.n := e3.1
  have l5 : h3.n ≤ h4.n := e4.1
  have q1 := (rp1.toSl (F := fun _ => True) (fun _ _ => trivial)).isSl
  have q2 := (rp1.toSl (F := fun _ => True) (fun _ _ => trivial)).one
  have d3 := hm.b.lenD
  repeat ((with_reducible refine WDM_cons ?_; simp only [dw1]; try simp only [dw2, Nat.reduceAdd, Nat.reduceMul, Nat.reduceShiftRight, Nat.reduceMod, Nat.reduceEqDiff]); simp only [core, Nat.reduceAdd, Nat.reduceSub, Nat.reduceMul, Nat.reduceLT, Nat.reduceEqDiff, reduceCtorEq, Nat.reduceLeDiff, Int.reduceLE, Int.reduceLT, Int.reduceToNat, cored, LP4, P4, l4, r1, r2, q1, q2, s1, s2, s3, Z4, l6, d3])
  rw [a_mkB (n := m.buckets.length) (by simp only [core, Nat.reduceAdd, Nat.reduceSub, Nat.reduceMul, Nat.reduceLT, Nat.reduceEqDiff, reduceCtorEq, Nat.reduceLeDiff, Int.reduceLE, Int.reduceLT, Int.reduceToNat]) hb]
  obtain ⟨h5, hh5⟩ : ∃ h5, h5 = (h4.put H.n (.cells [.lit (.int .i64 m.epoch), ro, vp, vb, .lit (.int .i64 m.leaf)] 31)).put H.n (.cells [.lit (.int .i64 m.epoch), ro, rp, vb, .lit (.int .i64 m.leaf)] 31) := ⟨_, rfl⟩
  have n5 : h5.n = h4.n := by rw [hh5, n_put, n_put]
  have P5 : h5.at H.n = some (.cells [.lit (.int .i64 m.epoch), ro, rp, vb, .lit (.int .i64 m.leaf)] 31) := hh5 ▸ at_put_same _ (by rw [n_put]; exact l4)
  have k5 : ∀ b, b ≠ H.n → h5.at b = h4.at b := fun b hb => by rw [hh5, at_put_ne _ (Ne.symm hb), at_put_ne _ (Ne.symm hb)]
  have o5 : OwnE ROsd hp.n h5 ro 43 m.osds := hh5 ▸ ((ro1.ext e4 (Nat.le_refl _)).put (by omega)).put (by omega)
  have p5 : OwnE RPool h3.n h5 rp 94 m.pools := hh5 ▸ (rp1.put (by omega)).put (by omega)
  have E5 : Ext H.n H h5 := hh5 ▸ (E4.put _ (Nat.le_refl _)).put _ (Nat.le_refl _)
  rw [← hh5]
  clear hh5
  obtain ⟨h6, hh6⟩ : ∃ h6, h6 = h5.push (.cells (zK m.buckets.length) 92) := ⟨_, rfl⟩
  have e6 : Ext h5.n h5 h6 := hh6 ▸ (Ext.refl _ _).push _ (Nat.le_refl _)
  have Q6 : h6.at h5.n = some (.cells (zK m.buckets.length) 92) := hh6 ▸ at_push_n _ _
  have n6 : h6.n = h5.n + 1 := by rw [hh6, n_push]
  have P6 := (e6.2 _ (at_lt P5)).trans P5
  have E6 := E5.step e6
  have o6 := o5.ext e6 (Nat.le_refl _)
  have p6 := p5.ext e6 (Nat.le_refl _)
  have LP6 := ld_at (T := tabOf Try.prog NT0) P6
  have Z6 : h6.at (H.n + 1) = some (.cells [.lit (.int .i64 0), .lit (.slice none 0 0), .lit (.slice none 0 0), .lit (.slice none 0 0), .lit (.int .i64 0)] 31) := (e6.2 _ (by omega)).trans ((k5 _ (by omega)).trans Z4)
  rw [← hh6]
  clear hh6 e6
  simp only [core, Nat.reduceAdd, Nat.reduceSub, Nat.reduceMul, Nat.reduceLT, Nat.reduceEqDiff, reduceCtorEq, Nat.reduceLeDiff, Int.reduceLE, Int.reduceLT, Int.reduceToNat, n5, s3, d3, LP6]
  rw [n5] at Q6
  obtain ⟨q, hq⟩ : ∃ q, q = h4.n := ⟨_, rfl⟩
  obtain ⟨n, hN⟩ : ∃ n, n = m.buckets.length := ⟨_, rfl⟩
  have aq1 : Apart ro q := (ro1.ext e4 (Nat.le_refl _)).apart (by omega)
  have aq2 : Apart rp q := rp1.apart (by omega)
  rw [← hq, ← hN]
  rw [← hq, ← hN] at Q6
  have qs1 : isSl (.sl q 0 n (.kn n)) = true := rfl
  have qs2 : lenD (.sl q 0 n (.kn n)) = n := rfl
  have qs3 : slB (.sl q 0 n (.kn n)) = q := rfl
  have qs4 : slO (.sl q 0 n (.kn n)) = 0 := rfl
  refine WB_for n (fun i t h => ∃ K, h.at q = some (.cells (K.flatten ++ zK (n - i)) 92) ∧ K.length = i ∧ Els RBkt (fun k => h6.n ≤ k ∧ Apart ro k ∧ Apart rp k ∧ k ≠ q) h K (m.buckets.take i) ∧ Ext q h6 h ∧ OwnE ROsd hp.n h ro 43 m.osds ∧ OwnE RPool h3.n h rp 94 m.pools ∧ t.n = 35 ∧ t.get 1 = .ptr H.n 0 ∧ t.get 2 = .ptr (H.n + 1) 0 ∧ t.get 3 = .sl q 0 n (.kn n) ∧ t.get 19 = vb ∧ t.get 20 = .lit (.int .i64 n) ∧ t.get 21 = .lit (.int .i64 i)) ?_ ?_ _ _ ?_
  · rintro i t h hlt hc ⟨K, hat, hK, hE, he, ho, hp', hn, g1, g2, g3, g19, g20, g21⟩ ih
    obtain ⟨x, hx⟩ : ∃ x, m.buckets[i]? = some x := ⟨_, List.getElem?_eq_getElem (by omega)⟩
    have E1 : Ext H.n H h := E6.trans (he.mono (by omega))
    obtain ⟨c, hc1, hld, hld0⟩ := hm.b.atE (T := tabOf Try.prog NT0) E1 RBkt_z hx
    obtain ⟨va, vw, rfl, ha, hw, hi⟩ := RBkt_is.1 hc1
    have a1 := ha.one
    have w1 := hw.one
    obtain ⟨la, lw⟩ := hbk x (List.mem_of_getElem? hx)
    have hws := wrap_succ (n := n) hlt (by unfold Sm at lb; omega)
    rw [← hN] at d3
    simp only [core, Nat.reduceAdd, Nat.reduceSub, Nat.reduceMul, Nat.reduceLT, Nat.reduceEqDiff, reduceCtorEq, Nat.reduceLeDiff, Int.reduceLE, Int.reduceLT, Int.reduceToNat, s3, d3, hn, g1, g2, g3, g19, g20, g21, hlt, hc, hld, hld0, hws, a1, w1]
    obtain ⟨hA, hhA⟩ : ∃ hA, hA = h.push (.cells [.lit (.int .i64 x.id), .lit (.int .i64 x.kind), va, vw] 92) := ⟨_, rfl⟩
    have eA : Ext h.n h hA := hhA ▸ (Ext.refl _ _).push _ (Nat.le_refl _)
    rw [← hhA]
    clear hhA
    have EA := E1.step eA
    refine (bkt_x x (ha.ext EA (Nat.le_refl _)) (hw.ext EA (Nat.le_refl _)) la lw).mono ?_
    rintro _ hB ⟨eB, ra, rw1, rfl, b1, b2⟩
    have u1 := (b1.toSl (F := fun _ => True) (fun _ _ => trivial)).one
    have u2 := (b2.toSl (F := fun _ => True) (fun _ _ => trivial)).one
    have lq := at_lt hat
    have lA := eA.1
    have lBn := eB.1
    have hatB := (eB.2 _ (by omega)).trans ((eA.2 _ lq).trans hat)
    have lB := at_lt hatB
    have hput := put_row (n := n) hK (fun c hc => hE.lens c hc) hlt (.lit (.int .i64 x.id)) (.lit (.int .i64 x.kind)) ra rw1
    simp only [corem, WB_cond_s, put, ldL, WB_label, List.nil_append, List.drop_zero, List.take_zero, Nat.reduceAdd, Nat.reduceSub, Nat.reduceMul, Nat.reduceLT, Nat.reduceEqDiff, reduceCtorEq, Nat.reduceLeDiff, Int.reduceLE, Int.reduceLT, Int.reduceToNat, -put, bktV, qs1, qs2, qs3, qs4, u1, u2, hlt, hatB, lB, hput, hws, hn, g1, g2, g3, g19, g20, g21]
    have lh6 := he.1
    have hn0 := E1.1
    have lEB := eB.1
    refine ih _ _ ⟨_, at_put_same _ lB, by simp [hK], ?_, ((he.trans (eA.mono (by omega))).trans (eB.mono (by omega))).put _ (Nat.le_refl _), ((ho.ext eA (Nat.le_refl _)).ext eB (Nat.le_refl _)).put_ap aq1, ((hp'.ext eA (Nat.le_refl _)).ext eB (Nat.le_refl _)).put_ap aq2, ?_⟩
    · rw [List.take_add_one, hx]
      refine (hE.lift fun b hb hlb => ⟨?_, hb⟩).snoc (RBkt_is.2 ⟨ra, rw1, rfl, (b1.put_ap ?_).toSl ?_, (b2.put_ap ?_).toSl ?_, hi.1, hi.2⟩)
      · rw [at_put_ne _ (Ne.symm hb.2.2.2), eB.2 _ (by omega), eA.2 _ hlb]
      · exact b1.apartLt (by omega)
      · exact fun b hb => ⟨by omega, ho.apart (by omega), hp'.apart (by omega), by omega⟩
      · exact b2.apartLt (by omega)
      · exact fun b hb => ⟨by omega, ho.apart (by omega), hp'.apart (by omega), by omega⟩
    · simp only [core, Nat.reduceAdd, Nat.reduceSub, Nat.reduceMul, Nat.reduceLT, Nat.reduceEqDiff, reduceCtorEq, Nat.reduceLeDiff, Int.reduceLE, Int.reduceLT, Int.reduceToNat, hn, g1, g2, g3, g19, g20, g21]
  · rintro t h hc ⟨K, hat, hK, hE, he, ho, hp', hn, g1, g2, g3, g19, g20, g21⟩
    have lh6 := he.1
    have PH := (he.2 _ (by omega)).trans P6
    have ZH := (he.2 _ (by omega)).trans Z6
    have LPH := ld_at (T := tabOf Try.prog NT0) PH
    have lPH := at_lt PH
    have lZH := at_lt ZH
    have hne : ¬ H.n = H.n + 1 := by omega
    rw [← hN] at d3
    simp only [core, Nat.reduceAdd, Nat.reduceSub, Nat.reduceMul, Nat.reduceLT, Nat.reduceEqDiff, reduceCtorEq, Nat.reduceLeDiff, Int.reduceLE, Int.reduceLT, Int.reduceToNat, s3, d3, hn, g1, g2, g3, g19, g20, g21, hc, PH, ZH, LPH, lPH, lZH, r1, r2, q1, q2, qs1, hne]
    rw [Nat.sub_self, show zK 0 = [] from rfl, List.append_nil] at hat
    rw [hN, List.take_length] at hE
    refine ⟨((E6.trans (he.mono (by omega))).put _ (Nat.le_refl _)).put _ (by omega), _, _, _, rfl, fun p0 hp0 => ⟨(((ho.put_ap ?_).put_ap ?_).mono (by omega)), (((hp'.put_ap ?_).put_ap ?_).mono (by omega)), ?_, ho.apartLt (by omega), hp'.apartLt (by omega)⟩⟩
    · exact ho.apartLt (by omega)
    · exact ho.apartLt (by omega)
    · exact hp'.apartLt (by omega)
    · exact hp'.apartLt (by omega)
    · refine IsSl.ofAt (e := 92) (L := K) ?_ ⟨by omega, aq1, aq2, by omega⟩ (hE.lift fun b hb hlb => ⟨?_, by have := hb.1; omega, hb.2.1, hb.2.2.1, by have := hb.1; omega⟩) hN.symm
      · rw [at_put_ne _ (by omega), at_put_ne _ (by omega), hat]
      · have := hb.1
        rw [at_put_ne _ (by omega), at_put_ne _ (by omega)]
  · refine ⟨[], ?_, rfl, Els.nil, Ext.refl _ _, o6, p6, ?_⟩
    · exact Q6
    · simp only [core, Nat.reduceAdd, Nat.reduceSub, Nat.reduceMul, Nat.reduceLT, Nat.reduceEqDiff, reduceCtorEq, Nat.reduceLeDiff, Int.reduceLE, Int.reduceLT, Int.reduceToNat]
      simp
end Go.Proofs.Ytkgbeihcepociaa.Ex
end

section

set_option linter.unusedSimpArgs false
set_option linter.unusedVariables false
set_option maxRecDepth 10000
set_option maxHeartbeats 4000000
namespace Go.Proofs.Ytkgbeihcepociaa.Ex
open Go
/-- What a row that grows does to the rest. -/
theorem Fr.toExtL {α : Type} {R : Rep α} {G : Nat → Prop} {n0 : Nat} {h h1 : AH} {v v1 : AV} {e : TypeId} {xs : List α} (f : Fr h v h1 v1) (ho : OwnL R G n0 h v e xs) (hn0 : n0 ≤ h.n) : Ext n0 h h1 := ⟨f.1, fun b hb => (f.2 b (by omega) (ho.apartLt hb)).1⟩
theorem lenA1 {L : List BktD} {b : BktD} {i n k : Nat} (h1 : L.length ≤ i) (h2 : i < n) (h3 : n = k) (sb : (k + 1) * 64 ≤ 140737488355328) : ((L ++ [b]).length + 1) * 64 ≤ 140737488355328 := by
  have : (L ++ [b]).length = L.length + 1 := by simp
  omega
theorem lenA2 {L : List BktD} {i n k : Nat} (h1 : L.length ≤ i + 1) (h2 : i < n) (h3 : n = k) (sb : (k + 1) * 64 ≤ 140737488355328) : ((L).length + 1) * 64 ≤ 140737488355328 := by
  omega
theorem lenA3 {l k : Nat} (h1 : l ≤ k) (sb : (k + 1) * 64 ≤ 140737488355328) : (l + 1) * 64 ≤ 140737488355328 := by omega
/-- A row of buckets of which a block below is written. -/
theorem OwnL.putLt {α : Type} {R : Rep α} {n0 p : Nat} {h : AH} {d : AV} {e : TypeId} {xs : List α} {x : AB} (ho : OwnL R (fun k => n0 ≤ k) n0 h d e xs) (hp : p < n0) : OwnL R (fun k => n0 ≤ k) n0 (h.put p x) d e xs := by
  refine ho.lift (fun b off n cap ev => ?_) (fun b hb _ _ => at_put_ne _ (by omega))
  · obtain ⟨L, h1, h2⟩ := ho
    rcases h1.2 with ⟨hh, _⟩ | ⟨q, hh, hq, hat⟩
    · rw [hh] at ev; cases ev
    · rw [hh] at ev
      cases ev
      exact at_put_ne _ (by omega)
theorem wb_x {F : Nat → Prop} {H : AH} {m : MapD} {vo vp vb va vw : AV} (b : BktD) (hm : MpAt F H m vo vp vb) (sb : (m.buckets.length + 1) * 64 ≤ 140737488355328) (hbk : ∀ b ∈ m.buckets, Sm 8 b.items ∧ Sm 8 b.weights) (ha : IsSl RInt F H va b.items) (hw : IsSl RInt F H vw b.weights) (la : Sm 8 b.items) (lw : Sm 8 b.weights) (hi : I64 b.id ∧ I64 b.kind) :
    WC Try.prog (tabOf Try.prog NT0) S0 122 [mpV m vo vp vb, bktV b va vw] H fun r h' => Ext H.n H h' ∧ ∃ rb, r = mpV (withB m b) vo vp rb ∧ IsSl RBkt (fun k => H.n ≤ k) h' rb (wbL m.buckets b) := by
  refine WC_fn Try.func122 rfl rfl ?_
  have o1 := hm.o.one
  have o2 := hm.p.one
  have o3 := hm.b.one
  have s3 := hm.b.isSl
  have d3 := hm.b.lenD
  have a1 := ha.one
  have w1 := hw.one
  have a2 := ha.isSl
  have a3 := ha.lenD
  simp only [core, Nat.reduceAdd, Nat.reduceSub, Nat.reduceMul, Nat.reduceLT, Nat.reduceEqDiff, reduceCtorEq, Nat.reduceLeDiff, Int.reduceLE, Int.reduceLT, Int.reduceToNat, Try.ntmps122, mpV, bktV, o1, o2, o3, a1, w1, a2, a3, s3, d3]
  obtain ⟨hp, hhp⟩ : ∃ hp, hp = ((H.push (.cells [.lit (.int .i64 m.epoch), vo, vp, vb, .lit (.int .i64 m.leaf)] 31)).push (.cells [.lit (.int .i64 b.id), .lit (.int .i64 b.kind), va, vw] 92)).push (.cells [.lit (.int .i64 0), .lit (.slice none 0 0), .lit (.slice none 0 0), .lit (.slice none 0 0), .lit (.int .i64 0)] 31) := ⟨_, rfl⟩
  have EP : Ext H.n H hp := hhp ▸ (((Ext.refl _ _).push _ (Nat.le_refl _)).push _ (by rw [n_push]; omega)).push _ (by rw [n_push, n_push]; omega)
  have P0 : hp.at H.n = some (.cells [.lit (.int .i64 m.epoch), vo, vp, vb, .lit (.int .i64 m.leaf)] 31) := hhp ▸ ((at_push_lt _ (by rw [n_push, n_push]; omega)).trans (at_push_lt _ (by rw [n_push]; omega))).trans (at_push_n _ _)
  have B0 : hp.at (H.n + 1) = some (.cells [.lit (.int .i64 b.id), .lit (.int .i64 b.kind), va, vw] 92) := hhp ▸ (at_push_lt _ (by rw [n_push, n_push]; omega)).trans (at_push_n _ _)
  have Z0 : hp.at (H.n + 2) = some (.cells [.lit (.int .i64 0), .lit (.slice none 0 0), .lit (.slice none 0 0), .lit (.slice none 0 0), .lit (.int .i64 0)] 31) := hhp ▸ at_push_n _ _
  have nP : hp.n = H.n + 3 := by rw [hhp, n_push, n_push, n_push]
  rw [← hhp]
  clear hhp
  obtain ⟨n, hN⟩ : ∃ n, n = m.buckets.length := ⟨_, rfl⟩
  rw [← hN] at d3
  have hd0 : decide (b.items.length = 0) = decide ((b.items.length : Int) = 0) := by
    by_cases h : b.items.length = 0
    · rw [decide_eq_true h, decide_eq_true (by omega)]
    · rw [decide_eq_false h, decide_eq_false (by omega)]
  rw [← hN]
  refine WB_for n (fun i t h => (∃ s, OwnK hp.n h s ((m.buckets.take i).foldl (wbStep b) ([], decide (b.items.length = 0))).1 ∧ Ext hp.n hp h ∧ t.get 5 = s) ∧ t.get 6 = .lit (.bool ((m.buckets.take i).foldl (wbStep b) ([], decide (b.items.length = 0))).2) ∧ t.n = 55 ∧ t.get 2 = .ptr H.n 0 ∧ t.get 3 = .ptr (H.n + 1) 0 ∧ t.get 4 = .ptr (H.n + 2) 0 ∧ t.get 14 = vb ∧ t.get 15 = .lit (.int .i64 n) ∧ t.get 16 = .lit (.int .i64 i)) ?_ ?_ _ _ ?_
  · rintro i t h hlt hc ⟨⟨s, ho, he, g5⟩, g6, hn, g2, g3, g4, g14, g15, g16⟩ ih
    obtain ⟨x, hx⟩ : ∃ x, m.buckets[i]? = some x := ⟨_, List.getElem?_eq_getElem (by omega)⟩
    have hlen : ((m.buckets.take i).foldl (wbStep b) ([], decide (b.items.length = 0))).1.length ≤ i + 1 := by
      have h1 := wbFold_len (b := b) (m.buckets.take i) ([], decide (b.items.length = 0))
      have h2 := nB_le (decide (b.items.length = 0))
      have h3 : (m.buckets.take i).length ≤ i := by rw [List.length_take]; omega
      simp only [List.length_nil] at h1
      omega
    have hnB : ((m.buckets.take i).foldl (wbStep b) ([], decide (b.items.length = 0))).2 = false → ((m.buckets.take i).foldl (wbStep b) ([], decide (b.items.length = 0))).1.length ≤ i := fun hf => by
      have h1 := wbFold_len (b := b) (m.buckets.take i) ([], decide (b.items.length = 0))
      have h2 := nB_le (decide (b.items.length = 0))
      have h3 : (m.buckets.take i).length ≤ i := by rw [List.length_take]; omega
      rw [hf] at h1
      have h4 : nB false = 1 := rfl
      simp only [List.length_nil] at h1
      omega
    have hsucc := fold_succ (wbStep b) ([], decide (b.items.length = 0)) hx
    obtain ⟨S, hS⟩ : ∃ S, S = (m.buckets.take i).foldl (wbStep b) ([], decide (b.items.length = 0)) := ⟨_, rfl⟩
    rw [← hS] at ho g6 hlen hnB hsucc
    rw [hsucc] at ih
    clear hS hsucc
    obtain ⟨L, put⟩ := S
    simp only at ho g6 hlen hnB
    have E1 : Ext H.n H h := EP.trans (he.mono (by omega))
    obtain ⟨c, hc1, hld, hld0⟩ := hm.b.atE (T := tabOf Try.prog NT0) E1 RBkt_z hx
    obtain ⟨va2, vw2, rfl, ha2, hw2, hi2⟩ := RBkt_is.1 hc1
    have x1 := ha2.one
    have x2 := hw2.one
    obtain ⟨la2, lw2⟩ := hbk x (List.mem_of_getElem? hx)
    have hws := wrap_succ (n := n) hlt (by omega)
    have BH := (he.2 _ (by omega)).trans B0
    have LB := ld_at (T := tabOf Try.prog NT0) BH
    have lBH := at_lt BH
    have lhn := he.1
    obtain ⟨hA, hhA⟩ : ∃ hA, hA = h.push (.cells [.lit (.int .i64 x.id), .lit (.int .i64 x.kind), va2, vw2] 92) := ⟨_, rfl⟩
    have eA : Ext h.n h hA := hhA ▸ (Ext.refl _ _).push _ (Nat.le_refl _)
    have XA : hA.at h.n = some (.cells [.lit (.int .i64 x.id), .lit (.int .i64 x.kind), va2, vw2] 92) := hhA ▸ at_push_n _ _
    have LXA := ld_at (T := tabOf Try.prog NT0) XA
    have lXA := at_lt XA
    have nA : hA.n = h.n + 1 := by rw [hhA, n_push]
    have BA := (eA.2 _ lBH).trans BH
    have LBA := ld_at (T := tabOf Try.prog NT0) BA
    have lBA := at_lt BA
    have EA := E1.step eA
    have oA := ho.ext eA (Nat.le_refl _)
    have s1 := (ho.toSl (F := fun _ => True) (fun _ _ => trivial) (fun _ _ => trivial)).isSl
    have s2 := (ho.toSl (F := fun _ => True) (fun _ _ => trivial) (fun _ _ => trivial)).one
    have heA : Ext hp.n hp hA := he.trans (eA.mono (by omega))
    cases put with
    | true =>
      by_cases ceq : x.id = b.id
      · have hst : wbStep b (L, true) x = (L, true) := by
          unfold wbStep
          simp [ceq]
        rw [hst] at ih
        have cqn : (x.id != b.id) = false := by simp [ceq]
        simp only [core, Nat.reduceAdd, Nat.reduceSub, Nat.reduceMul, Nat.reduceLT, Nat.reduceEqDiff, reduceCtorEq, Nat.reduceLeDiff, Int.reduceLE, Int.reduceLT, Int.reduceToNat, ← hhA, cqn, LXA, LBA, lXA, lBA, hn, g2, g3, g4, g14, g15, g16, g5, g6, hlt, hc, hld, hld0, hws, x1, x2, a1, w1, a2, a3, s3, d3]
        refine ih _ _ ⟨⟨_, oA, heA, by simp only [core, Nat.reduceAdd, Nat.reduceSub, Nat.reduceMul, Nat.reduceLT, Nat.reduceEqDiff, reduceCtorEq, Nat.reduceLeDiff, Int.reduceLE, Int.reduceLT, Int.reduceToNat, hn, g2, g3, g4, g14, g15, g16, g5, g6]⟩, by simp only [core, Nat.reduceAdd, Nat.reduceSub, Nat.reduceMul, Nat.reduceLT, Nat.reduceEqDiff, reduceCtorEq, Nat.reduceLeDiff, Int.reduceLE, Int.reduceLT, Int.reduceToNat, hn, g2, g3, g4, g14, g15, g16, g5, g6], ?_⟩
        simp only [core, Nat.reduceAdd, Nat.reduceSub, Nat.reduceMul, Nat.reduceLT, Nat.reduceEqDiff, reduceCtorEq, Nat.reduceLeDiff, Int.reduceLE, Int.reduceLT, Int.reduceToNat, hn, g2, g3, g4, g14, g15, g16, g5, g6]
      · have hst : wbStep b (L, true) x = (L ++ [x], true) := by
          unfold wbStep
          simp [ceq]
        rw [hst] at ih
        have cqn : (x.id != b.id) = true := by simp [ceq]
        simp only [core, Nat.reduceAdd, Nat.reduceSub, Nat.reduceMul, Nat.reduceLT, Nat.reduceEqDiff, reduceCtorEq, Nat.reduceLeDiff, Int.reduceLE, Int.reduceLT, Int.reduceToNat, ← hhA, cqn, LXA, LBA, lXA, lBA, hn, g2, g3, g4, g14, g15, g16, g5, g6, hlt, hc, hld, hld0, hws, x1, x2, a1, w1, a2, a3, s3, d3]
        refine (bkt_x x (ha2.ext EA (Nat.le_refl _)) (hw2.ext EA (Nat.le_refl _)) la2 lw2).mono ?_
        rintro _ hB2 ⟨eB2, ra2, rw2, rfl, p2, q2⟩
        have t2 := (p2.toSl (F := fun _ => True) (fun _ _ => trivial)).one
        have u2 := (q2.toSl (F := fun _ => True) (fun _ _ => trivial)).one
        have lB2 := eB2.1
        have eC2 : Ext hA.n hA (hB2.push (.cells [.lit (.int .i64 x.id), .lit (.int .i64 x.kind), ra2, rw2] 92)) := eB2.push _ eB2.1
        simp only [core, Nat.reduceAdd, Nat.reduceSub, Nat.reduceMul, Nat.reduceLT, Nat.reduceEqDiff, reduceCtorEq, Nat.reduceLeDiff, Int.reduceLE, Int.reduceLT, Int.reduceToNat, bktV, t2, u2, hn, g2, g3, g4, g14, g15, g16, g5, g6, hlt, hc, hld, hld0, hws, x1, x2, a1, w1, a2, a3, s3, d3]
        have hl2 : ((L).length + 1) * 64 ≤ 140737488355328 := lenA2 (by first | exact hlen | exact Nat.le_succ_of_le hlen) hlt hN sb
        have hn2 : hp.n ≤ hA.n := by omega
        refine WOp_app (push_bkt oA hn2 eC2 (at_push_n _ _) (p2.ext ((Ext.refl hB2.n hB2).push _ (Nat.le_refl _)) (Nat.le_refl _)) (q2.ext ((Ext.refl hB2.n hB2).push _ (Nat.le_refl _)) (Nat.le_refl _)) hi2 hl2) ?_
        rintro s2' hC2 ⟨oC2, fC2⟩
        have he2 : Ext hp.n hp hC2 := heA.trans (fC2.toExtL oA (by omega))
        have z2 := (oC2.toSl (F := fun _ => True) (fun _ _ => trivial) (fun _ _ => trivial)).isSl
        simp only [core, Nat.reduceAdd, Nat.reduceSub, Nat.reduceMul, Nat.reduceLT, Nat.reduceEqDiff, reduceCtorEq, Nat.reduceLeDiff, Int.reduceLE, Int.reduceLT, Int.reduceToNat, z2, hn, g2, g3, g4, g14, g15, g16, g5, g6, hlt, hc, hld, hld0, hws, x1, x2, a1, w1, a2, a3, s3, d3]
        refine ih _ _ ⟨⟨_, oC2, he2, by simp only [core, Nat.reduceAdd, Nat.reduceSub, Nat.reduceMul, Nat.reduceLT, Nat.reduceEqDiff, reduceCtorEq, Nat.reduceLeDiff, Int.reduceLE, Int.reduceLT, Int.reduceToNat, hn, g2, g3, g4, g14, g15, g16, g5, g6]⟩, by simp only [core, Nat.reduceAdd, Nat.reduceSub, Nat.reduceMul, Nat.reduceLT, Nat.reduceEqDiff, reduceCtorEq, Nat.reduceLeDiff, Int.reduceLE, Int.reduceLT, Int.reduceToNat, hn, g2, g3, g4, g14, g15, g16, g5, g6], ?_⟩
        simp only [core, Nat.reduceAdd, Nat.reduceSub, Nat.reduceMul, Nat.reduceLT, Nat.reduceEqDiff, reduceCtorEq, Nat.reduceLeDiff, Int.reduceLE, Int.reduceLT, Int.reduceToNat, hn, g2, g3, g4, g14, g15, g16, g5, g6]
    | false =>
      have hlen := hnB rfl
      by_cases cle : x.id ≤ b.id
      · simp only [core, Nat.reduceAdd, Nat.reduceSub, Nat.reduceMul, Nat.reduceLT, Nat.reduceEqDiff, reduceCtorEq, Nat.reduceLeDiff, Int.reduceLE, Int.reduceLT, Int.reduceToNat, ← hhA, cle, LXA, LBA, lXA, lBA, hn, g2, g3, g4, g14, g15, g16, g5, g6, hlt, hc, hld, hld0, hws, x1, x2, a1, w1, a2, a3, s3, d3]
        refine (bkt_x b (ha.ext EA (Nat.le_refl _)) (hw.ext EA (Nat.le_refl _)) la lw).mono ?_
        rintro _ hB1 ⟨eB1, ra1, rw1, rfl, p1, q1⟩
        have t1 := (p1.toSl (F := fun _ => True) (fun _ _ => trivial)).one
        have u1 := (q1.toSl (F := fun _ => True) (fun _ _ => trivial)).one
        have lB1 := eB1.1
        have eC1 : Ext hA.n hA (hB1.push (.cells [.lit (.int .i64 b.id), .lit (.int .i64 b.kind), ra1, rw1] 92)) := eB1.push _ eB1.1
        simp only [core, Nat.reduceAdd, Nat.reduceSub, Nat.reduceMul, Nat.reduceLT, Nat.reduceEqDiff, reduceCtorEq, Nat.reduceLeDiff, Int.reduceLE, Int.reduceLT, Int.reduceToNat, bktV, t1, u1, hn, g2, g3, g4, g14, g15, g16, g5, g6, hlt, hc, hld, hld0, hws, x1, x2, a1, w1, a2, a3, s3, d3]
        have hl1 : ((L).length + 1) * 64 ≤ 140737488355328 := lenA2 (by first | exact hlen | exact Nat.le_succ_of_le hlen) hlt hN sb
        have hn1 : hp.n ≤ hA.n := by omega
        refine WOp_app (push_bkt oA hn1 eC1 (at_push_n _ _) (p1.ext ((Ext.refl hB1.n hB1).push _ (Nat.le_refl _)) (Nat.le_refl _)) (q1.ext ((Ext.refl hB1.n hB1).push _ (Nat.le_refl _)) (Nat.le_refl _)) hi hl1) ?_
        rintro s1' hC1 ⟨oC1, fC1⟩
        have he1 : Ext hp.n hp hC1 := heA.trans (fC1.toExtL oA (by omega))
        have z1 := (oC1.toSl (F := fun _ => True) (fun _ _ => trivial) (fun _ _ => trivial)).isSl
        obtain ⟨X1, -⟩ := fC1.box XA (ho.apart (Nat.le_refl _))
        have LX1 := ld_at (T := tabOf Try.prog NT0) X1
        have lX1 := at_lt X1
        have B1' := (he1.2 _ (by omega)).trans B0
        have LB1' := ld_at (T := tabOf Try.prog NT0) B1'
        have lB1' := at_lt B1'
        have E1c : Ext H.n H hC1 := EP.trans (he1.mono (by omega))
        have ln1 := he1.1
        by_cases ceq : x.id = b.id
        · have hst : wbStep b (L, false) x = (L ++ [b], true) := by
            unfold wbStep
            simp [ceq]
          rw [hst] at ih
          have cqn : (x.id != b.id) = false := by simp [ceq]
          simp only [core, Nat.reduceAdd, Nat.reduceSub, Nat.reduceMul, Nat.reduceLT, Nat.reduceEqDiff, reduceCtorEq, Nat.reduceLeDiff, Int.reduceLE, Int.reduceLT, Int.reduceToNat, cqn, LX1, LB1', lX1, lB1', z1, hn, g2, g3, g4, g14, g15, g16, g5, g6, hlt, hc, hld, hld0, hws, x1, x2, a1, w1, a2, a3, s3, d3]
          refine ih _ _ ⟨⟨_, oC1, he1, by simp only [core, Nat.reduceAdd, Nat.reduceSub, Nat.reduceMul, Nat.reduceLT, Nat.reduceEqDiff, reduceCtorEq, Nat.reduceLeDiff, Int.reduceLE, Int.reduceLT, Int.reduceToNat, hn, g2, g3, g4, g14, g15, g16, g5, g6]⟩, by simp only [core, Nat.reduceAdd, Nat.reduceSub, Nat.reduceMul, Nat.reduceLT, Nat.reduceEqDiff, reduceCtorEq, Nat.reduceLeDiff, Int.reduceLE, Int.reduceLT, Int.reduceToNat, hn, g2, g3, g4, g14, g15, g16, g5, g6], ?_⟩
          simp only [core, Nat.reduceAdd, Nat.reduceSub, Nat.reduceMul, Nat.reduceLT, Nat.reduceEqDiff, reduceCtorEq, Nat.reduceLeDiff, Int.reduceLE, Int.reduceLT, Int.reduceToNat, hn, g2, g3, g4, g14, g15, g16, g5, g6]
        · have hst : wbStep b (L, false) x = (L ++ [b] ++ [x], true) := by
            unfold wbStep
            simp [ceq, cle]
          rw [hst] at ih
          have cqn : (x.id != b.id) = true := by simp [ceq]
          simp only [core, Nat.reduceAdd, Nat.reduceSub, Nat.reduceMul, Nat.reduceLT, Nat.reduceEqDiff, reduceCtorEq, Nat.reduceLeDiff, Int.reduceLE, Int.reduceLT, Int.reduceToNat, cqn, LX1, LB1', lX1, lB1', z1, hn, g2, g3, g4, g14, g15, g16, g5, g6, hlt, hc, hld, hld0, hws, x1, x2, a1, w1, a2, a3, s3, d3]
          refine (bkt_x x (ha2.ext E1c (Nat.le_refl _)) (hw2.ext E1c (Nat.le_refl _)) la2 lw2).mono ?_
          rintro _ hB2 ⟨eB2, ra2, rw2, rfl, p2, q2⟩
          have t2 := (p2.toSl (F := fun _ => True) (fun _ _ => trivial)).one
          have u2 := (q2.toSl (F := fun _ => True) (fun _ _ => trivial)).one
          have lB2 := eB2.1
          have eC2 : Ext hC1.n hC1 (hB2.push (.cells [.lit (.int .i64 x.id), .lit (.int .i64 x.kind), ra2, rw2] 92)) := eB2.push _ eB2.1
          simp only [core, Nat.reduceAdd, Nat.reduceSub, Nat.reduceMul, Nat.reduceLT, Nat.reduceEqDiff, reduceCtorEq, Nat.reduceLeDiff, Int.reduceLE, Int.reduceLT, Int.reduceToNat, bktV, t2, u2, hn, g2, g3, g4, g14, g15, g16, g5, g6, hlt, hc, hld, hld0, hws, x1, x2, a1, w1, a2, a3, s3, d3]
          have hl2 : ((L ++ [b]).length + 1) * 64 ≤ 140737488355328 := lenA1 hlen hlt hN sb
          have hn2 : hp.n ≤ hC1.n := by omega
          refine WOp_app (push_bkt oC1 hn2 eC2 (at_push_n _ _) (p2.ext ((Ext.refl hB2.n hB2).push _ (Nat.le_refl _)) (Nat.le_refl _)) (q2.ext ((Ext.refl hB2.n hB2).push _ (Nat.le_refl _)) (Nat.le_refl _)) hi2 hl2) ?_
          rintro s2' hC2 ⟨oC2, fC2⟩
          have he2 : Ext hp.n hp hC2 := he1.trans (fC2.toExtL oC1 (by omega))
          have z2 := (oC2.toSl (F := fun _ => True) (fun _ _ => trivial) (fun _ _ => trivial)).isSl
          simp only [core, Nat.reduceAdd, Nat.reduceSub, Nat.reduceMul, Nat.reduceLT, Nat.reduceEqDiff, reduceCtorEq, Nat.reduceLeDiff, Int.reduceLE, Int.reduceLT, Int.reduceToNat, z2, hn, g2, g3, g4, g14, g15, g16, g5, g6, hlt, hc, hld, hld0, hws, x1, x2, a1, w1, a2, a3, s3, d3]
          refine ih _ _ ⟨⟨_, oC2, he2, by simp only [core, Nat.reduceAdd, Nat.reduceSub, Nat.reduceMul, Nat.reduceLT, Nat.reduceEqDiff, reduceCtorEq, Nat.reduceLeDiff, Int.reduceLE, Int.reduceLT, Int.reduceToNat, hn, g2, g3, g4, g14, g15, g16, g5, g6]⟩, by simp only [core, Nat.reduceAdd, Nat.reduceSub, Nat.reduceMul, Nat.reduceLT, Nat.reduceEqDiff, reduceCtorEq, Nat.reduceLeDiff, Int.reduceLE, Int.reduceLT, Int.reduceToNat, hn, g2, g3, g4, g14, g15, g16, g5, g6], ?_⟩
          simp only [core, Nat.reduceAdd, Nat.reduceSub, Nat.reduceMul, Nat.reduceLT, Nat.reduceEqDiff, reduceCtorEq, Nat.reduceLeDiff, Int.reduceLE, Int.reduceLT, Int.reduceToNat, hn, g2, g3, g4, g14, g15, g16, g5, g6]
      · skip
        by_cases ceq : x.id = b.id
        · exact absurd (by omega) cle
        · have hst : wbStep b (L, false) x = (L ++ [x], false) := by
            unfold wbStep
            simp [ceq, cle]
          rw [hst] at ih
          have cqn : (x.id != b.id) = true := by simp [ceq]
          simp only [core, Nat.reduceAdd, Nat.reduceSub, Nat.reduceMul, Nat.reduceLT, Nat.reduceEqDiff, reduceCtorEq, Nat.reduceLeDiff, Int.reduceLE, Int.reduceLT, Int.reduceToNat, ← hhA, cqn, cle, LXA, LBA, lXA, lBA, hn, g2, g3, g4, g14, g15, g16, g5, g6, hlt, hc, hld, hld0, hws, x1, x2, a1, w1, a2, a3, s3, d3]
          refine (bkt_x x (ha2.ext EA (Nat.le_refl _)) (hw2.ext EA (Nat.le_refl _)) la2 lw2).mono ?_
          rintro _ hB2 ⟨eB2, ra2, rw2, rfl, p2, q2⟩
          have t2 := (p2.toSl (F := fun _ => True) (fun _ _ => trivial)).one
          have u2 := (q2.toSl (F := fun _ => True) (fun _ _ => trivial)).one
          have lB2 := eB2.1
          have eC2 : Ext hA.n hA (hB2.push (.cells [.lit (.int .i64 x.id), .lit (.int .i64 x.kind), ra2, rw2] 92)) := eB2.push _ eB2.1
          simp only [core, Nat.reduceAdd, Nat.reduceSub, Nat.reduceMul, Nat.reduceLT, Nat.reduceEqDiff, reduceCtorEq, Nat.reduceLeDiff, Int.reduceLE, Int.reduceLT, Int.reduceToNat, bktV, t2, u2, hn, g2, g3, g4, g14, g15, g16, g5, g6, hlt, hc, hld, hld0, hws, x1, x2, a1, w1, a2, a3, s3, d3]
          have hl2 : ((L).length + 1) * 64 ≤ 140737488355328 := lenA2 (by first | exact hlen | exact Nat.le_succ_of_le hlen) hlt hN sb
          have hn2 : hp.n ≤ hA.n := by omega
          refine WOp_app (push_bkt oA hn2 eC2 (at_push_n _ _) (p2.ext ((Ext.refl hB2.n hB2).push _ (Nat.le_refl _)) (Nat.le_refl _)) (q2.ext ((Ext.refl hB2.n hB2).push _ (Nat.le_refl _)) (Nat.le_refl _)) hi2 hl2) ?_
          rintro s2' hC2 ⟨oC2, fC2⟩
          have he2 : Ext hp.n hp hC2 := heA.trans (fC2.toExtL oA (by omega))
          have z2 := (oC2.toSl (F := fun _ => True) (fun _ _ => trivial) (fun _ _ => trivial)).isSl
          simp only [core, Nat.reduceAdd, Nat.reduceSub, Nat.reduceMul, Nat.reduceLT, Nat.reduceEqDiff, reduceCtorEq, Nat.reduceLeDiff, Int.reduceLE, Int.reduceLT, Int.reduceToNat, z2, hn, g2, g3, g4, g14, g15, g16, g5, g6, hlt, hc, hld, hld0, hws, x1, x2, a1, w1, a2, a3, s3, d3]
          refine ih _ _ ⟨⟨_, oC2, he2, by simp only [core, Nat.reduceAdd, Nat.reduceSub, Nat.reduceMul, Nat.reduceLT, Nat.reduceEqDiff, reduceCtorEq, Nat.reduceLeDiff, Int.reduceLE, Int.reduceLT, Int.reduceToNat, hn, g2, g3, g4, g14, g15, g16, g5, g6]⟩, by simp only [core, Nat.reduceAdd, Nat.reduceSub, Nat.reduceMul, Nat.reduceLT, Nat.reduceEqDiff, reduceCtorEq, Nat.reduceLeDiff, Int.reduceLE, Int.reduceLT, Int.reduceToNat, hn, g2, g3, g4, g14, g15, g16, g5, g6], ?_⟩
          simp only [core, Nat.reduceAdd, Nat.reduceSub, Nat.reduceMul, Nat.reduceLT, Nat.reduceEqDiff, reduceCtorEq, Nat.reduceLeDiff, Int.reduceLE, Int.reduceLT, Int.reduceToNat, hn, g2, g3, g4, g14, g15, g16, g5, g6]
  · rintro t h hc ⟨⟨s, ho, he, g5⟩, g6, hn, g2, g3, g4, g14, g15, g16⟩
    rw [hN, List.take_length] at ho g6
    have hlen : (m.buckets.foldl (wbStep b) ([], decide (b.items.length = 0))).2 = false → (m.buckets.foldl (wbStep b) ([], decide (b.items.length = 0))).1.length ≤ m.buckets.length := fun hf => by
      have h1 := wbFold_len (b := b) m.buckets ([], decide (b.items.length = 0))
      have h2 := nB_le (decide (b.items.length = 0))
      rw [hf] at h1
      have h4 : nB false = 1 := rfl
      simp only [List.length_nil] at h1
      omega
    have hwb : (withB m b).buckets = if (m.buckets.foldl (wbStep b) ([], decide (b.items.length = 0))).2 then (m.buckets.foldl (wbStep b) ([], decide (b.items.length = 0))).1 else (m.buckets.foldl (wbStep b) ([], decide (b.items.length = 0))).1 ++ [b] := rfl
    obtain ⟨S, hS⟩ : ∃ S, S = m.buckets.foldl (wbStep b) ([], decide (b.items.length = 0)) := ⟨_, rfl⟩
    rw [← hS] at ho g6 hlen hwb
    clear hS
    obtain ⟨L, put⟩ := S
    simp only at ho g6 hlen hwb
    have E1 : Ext H.n H h := EP.trans (he.mono (by omega))
    have s1 := (ho.toSl (F := fun _ => True) (fun _ _ => trivial) (fun _ _ => trivial)).isSl
    have s2 := (ho.toSl (F := fun _ => True) (fun _ _ => trivial) (fun _ _ => trivial)).one
    have BH := (he.2 _ (by omega)).trans B0
    have LB := ld_at (T := tabOf Try.prog NT0) BH
    have lBH := at_lt BH
    have PH := (he.2 _ (by omega)).trans P0
    have LP := ld_at (T := tabOf Try.prog NT0) PH
    have lPH := at_lt PH
    have ZH := (he.2 _ (by omega)).trans Z0
    have lZH := at_lt ZH
    have lhn := he.1
    have hne : ¬ H.n = H.n + 2 := by omega
    cases put with
    | true =>
      simp only [core, Nat.reduceAdd, Nat.reduceSub, Nat.reduceMul, Nat.reduceLT, Nat.reduceEqDiff, reduceCtorEq, Nat.reduceLeDiff, Int.reduceLE, Int.reduceLT, Int.reduceToNat, hn, g2, g3, g4, g14, g15, g16, g5, g6, hc, a1, w1, a2, a3, s3, d3, o1, o2, o3, s1, s2, LB, lBH, LP, lPH, PH, ZH, lZH, hne]
      refine ⟨(E1.put _ (Nat.le_refl _)).put _ (by omega), s, rfl, ?_⟩
      show IsSl RBkt _ _ s (withB m b).buckets
      rw [hwb, if_pos rfl]
      exact ((ho.putLt (by omega)).putLt (by omega)).toSl (fun k hk => by omega) (fun k hk => by omega)
    | false =>
      simp only [core, Nat.reduceAdd, Nat.reduceSub, Nat.reduceMul, Nat.reduceLT, Nat.reduceEqDiff, reduceCtorEq, Nat.reduceLeDiff, Int.reduceLE, Int.reduceLT, Int.reduceToNat, hn, g2, g3, g4, g14, g15, g16, g5, g6, hc, a1, w1, a2, a3, s3, d3, o1, o2, o3, s1, s2, LB, lBH, LP, lPH, PH, ZH, lZH, hne]
      refine (bkt_x b (ha.ext E1 (Nat.le_refl _)) (hw.ext E1 (Nat.le_refl _)) la lw).mono ?_
      rintro _ hB1 ⟨eB1, ra1, rw1, rfl, p1, q1⟩
      have t1 := (p1.toSl (F := fun _ => True) (fun _ _ => trivial)).one
      have u1 := (q1.toSl (F := fun _ => True) (fun _ _ => trivial)).one
      have eC1 : Ext h.n h (hB1.push (.cells [.lit (.int .i64 b.id), .lit (.int .i64 b.kind), ra1, rw1] 92)) := eB1.push _ eB1.1
      simp only [core, Nat.reduceAdd, Nat.reduceSub, Nat.reduceMul, Nat.reduceLT, Nat.reduceEqDiff, reduceCtorEq, Nat.reduceLeDiff, Int.reduceLE, Int.reduceLT, Int.reduceToNat, bktV, t1, u1, hn, g2, g3, g4, g14, g15, g16, g5, g6, s1, s2]
      have hl1 : (L.length + 1) * 64 ≤ 140737488355328 := lenA3 (hlen rfl) sb
      refine WOp_app (push_bkt ho lhn eC1 (at_push_n _ _) (p1.ext ((Ext.refl hB1.n hB1).push _ (Nat.le_refl _)) (Nat.le_refl _)) (q1.ext ((Ext.refl hB1.n hB1).push _ (Nat.le_refl _)) (Nat.le_refl _)) hi hl1) ?_
      rintro s1' hC1 ⟨oC1, fC1⟩
      have he1 : Ext hp.n hp hC1 := he.trans (fC1.toExtL ho lhn)
      have z1 := (oC1.toSl (F := fun _ => True) (fun _ _ => trivial) (fun _ _ => trivial)).isSl
      have z2 := (oC1.toSl (F := fun _ => True) (fun _ _ => trivial) (fun _ _ => trivial)).one
      have PC := (he1.2 _ (by omega)).trans P0
      have LPC := ld_at (T := tabOf Try.prog NT0) PC
      have lPC := at_lt PC
      have ZC := (he1.2 _ (by omega)).trans Z0
      have lZC := at_lt ZC
      simp only [core, Nat.reduceAdd, Nat.reduceSub, Nat.reduceMul, Nat.reduceLT, Nat.reduceEqDiff, reduceCtorEq, Nat.reduceLeDiff, Int.reduceLE, Int.reduceLT, Int.reduceToNat, z1, z2, hn, g2, g3, g4, g14, g15, g16, g5, g6, PC, LPC, lPC, ZC, lZC, o1, o2, o3, hne]
      refine ⟨((EP.trans (he1.mono (by omega))).put _ (Nat.le_refl _)).put _ (by omega), s1', rfl, ?_⟩
      show IsSl RBkt _ _ s1' (withB m b).buckets
      rw [hwb, if_neg (by simp)]
      exact ((oC1.putLt (by omega)).putLt (by omega)).toSl (fun k hk => by omega) (fun k hk => by omega)
  · refine ⟨⟨_, OwnL.nil, Ext.refl _ _, by simp only [core, Nat.reduceAdd, Nat.reduceSub, Nat.reduceMul, Nat.reduceLT, Nat.reduceEqDiff, reduceCtorEq, Nat.reduceLeDiff, Int.reduceLE, Int.reduceLT, Int.reduceToNat]⟩, ?_, ?_⟩
    · have hd : ((b.items.length : Int) == 0) = decide (b.items.length = 0) := by
        by_cases h : b.items.length = 0
        · rw [h]; rfl
        · rw [decide_eq_false h]; simp; exact fun hh => h (by rw [hh]; rfl)
      simp only [core, Nat.reduceAdd, Nat.reduceSub, Nat.reduceMul, Nat.reduceLT, Nat.reduceEqDiff, reduceCtorEq, Nat.reduceLeDiff, Int.reduceLE, Int.reduceLT, Int.reduceToNat, hd, List.take_zero, List.foldl_nil]
    · simp only [core, Nat.reduceAdd, Nat.reduceSub, Nat.reduceMul, Nat.reduceLT, Nat.reduceEqDiff, reduceCtorEq, Nat.reduceLeDiff, Int.reduceLE, Int.reduceLT, Int.reduceToNat]
      simp
end Go.Proofs.Ytkgbeihcepociaa.Ex
end

section

set_option linter.unusedSimpArgs false
set_option linter.unusedVariables false
set_option maxRecDepth 10000
set_option maxHeartbeats 4000000
namespace Go.Proofs.Ytkgbeihcepociaa.Ex
open Go
theorem Sm_le {α : Type} {n : Nat} {l : List α} {k : Nat} (h : l.length ≤ k) (hk : k * n ≤ 140737488351232) : Sm n l := Nat.le_trans (Nat.mul_le_mul_right n h) hk
theorem withB_ok {m : MapD} {b : BktD} (sb : (m.buckets.length + 1) * 64 ≤ 140737488351232) (hbk : ∀ b ∈ m.buckets, Sm 8 b.items ∧ Sm 8 b.weights) (la : Sm 8 b.items) (lw : Sm 8 b.weights) : OkM (withB m b) :=
  ⟨Sm_le (wbL_len m.buckets b) sb, wbL_ok (P := fun b => Sm 8 b.items ∧ Sm 8 b.weights) ⟨la, lw⟩ hbk, trivial⟩
theorem up47 {k : Nat} (h : k ≤ 140737488351232) : k ≤ 140737488355328 := by omega
theorem mayBkt_x {F : Nat → Prop} {H : AH} {m : MapD} {vo vp vb va vw : AV} (b : BktD) (hm : MpAt F H m vo vp vb) (sb : (m.buckets.length + 1) * 64 ≤ 140737488351232) (hbk : ∀ b ∈ m.buckets, Sm 8 b.items ∧ Sm 8 b.weights) (ha : IsSl RInt F H va b.items) (hw : IsSl RInt F H vw b.weights) (la : Sm 8 b.items) (lw : Sm 8 b.weights) (hi : I64 b.id ∧ I64 b.kind) :
    WC Try.prog (tabOf Try.prog NT0) S0 120 [mpV m vo vp vb, bktV b va vw] H fun r h' => Ext H.n H h' ∧ r = .lit (.int .i64 (mayBktF m b)) := by
  refine WC_fn Try.func120 rfl rfl ?_
  have o1 := hm.o.one
  have o2 := hm.p.one
  have o3 := hm.b.one
  have a1 := ha.one
  have w1 := hw.one
  have a2 := ha.isSl
  have a3 := ha.lenD
  obtain ⟨hp, hhp⟩ : ∃ hp, hp = (H.push (.cells [.lit (.int .i64 m.epoch), vo, vp, vb, .lit (.int .i64 m.leaf)] 31)).push (.cells [.lit (.int .i64 b.id), .lit (.int .i64 b.kind), va, vw] 92) := ⟨_, rfl⟩
  have EP : Ext H.n H hp := hhp ▸ ((Ext.refl _ _).push _ (Nat.le_refl _)).push _ (by rw [n_push]; omega)
  have P0 : hp.at H.n = some (.cells [.lit (.int .i64 m.epoch), vo, vp, vb, .lit (.int .i64 m.leaf)] 31) := hhp ▸ (at_push_lt _ (by rw [n_push]; omega)).trans (at_push_n _ _)
  have B0 : hp.at (H.n + 1) = some (.cells [.lit (.int .i64 b.id), .lit (.int .i64 b.kind), va, vw] 92) := hhp ▸ at_push_n _ _
  have nP : hp.n = H.n + 2 := by rw [hhp, n_push, n_push]
  have LP0 := ld_at (T := tabOf Try.prog NT0) P0
  have LB0 := ld_at (T := tabOf Try.prog NT0) B0
  have lP0 := at_lt P0
  have lB0 := at_lt B0
  unfold mayBktF
  by_cases c1 : b.id < -32
  · rw [if_pos (.inl c1)]
    simp only [core, Nat.reduceAdd, Nat.reduceSub, Nat.reduceMul, Nat.reduceLT, Nat.reduceEqDiff, reduceCtorEq, Nat.reduceLeDiff, Int.reduceLE, Int.reduceLT, Int.reduceToNat, Try.ntmps120, mpV, bktV, ← hhp, c1, o1, o2, o3, a1, w1, a2, a3, LP0, LB0, lP0, lB0]
    first | exact ⟨EP, trivial⟩ | exact EP
  by_cases c2 : -1 < b.id
  · rw [if_pos (.inr c2)]
    simp only [core, Nat.reduceAdd, Nat.reduceSub, Nat.reduceMul, Nat.reduceLT, Nat.reduceEqDiff, reduceCtorEq, Nat.reduceLeDiff, Int.reduceLE, Int.reduceLT, Int.reduceToNat, Try.ntmps120, mpV, bktV, ← hhp, c1, c2, o1, o2, o3, a1, w1, a2, a3, LP0, LB0, lP0, lB0]
    first | exact ⟨EP, trivial⟩ | exact EP
  rw [if_neg (by omega)]
  simp only [core, Nat.reduceAdd, Nat.reduceSub, Nat.reduceMul, Nat.reduceLT, Nat.reduceEqDiff, reduceCtorEq, Nat.reduceLeDiff, Int.reduceLE, Int.reduceLT, Int.reduceToNat, Try.ntmps120, mpV, bktV, ← hhp, c1, c2, o1, o2, o3, a1, w1, a2, a3, LP0, LB0, lP0, lB0]
  clear hhp
  refine (bucket_x b.id (hm.ext EP (Nat.le_refl _)) (Sm_le (Nat.le_succ _) sb) hbk).mono ?_
  rintro _ h2 ⟨e2, va2, vw2, rfl, b1, b2⟩
  have q1 := b1.one
  have q2 := b2.one
  have E2 := EP.step e2
  have P2 := (e2.2 _ lP0).trans P0
  have B2 := (e2.2 _ lB0).trans B0
  have ln2 := e2.1
  obtain ⟨h3, hh3⟩ : ∃ h3, h3 = h2.push (.cells [.lit (.int .i64 (bucketG m b.id).id), .lit (.int .i64 (bucketG m b.id).kind), va2, vw2] 92) := ⟨_, rfl⟩
  have e3 : Ext h2.n h2 h3 := hh3 ▸ (Ext.refl _ _).push _ (Nat.le_refl _)
  have P3 := (e3.2 _ (at_lt P2)).trans P2
  have B3 := (e3.2 _ (at_lt B2)).trans B2
  have LP3 := ld_at (T := tabOf Try.prog NT0) P3
  have LB3 := ld_at (T := tabOf Try.prog NT0) B3
  have lP3 := at_lt P3
  have lB3 := at_lt B3
  have E3 := E2.step e3
  have key : ∀ (hq : ¬ ((bucketF m b.id).isNone = true ∧ b.items = [])), WC Try.prog (tabOf Try.prog NT0) S0 122 [mpV m vo vp vb, bktV b va vw] h3 (fun r h' => ∃ rb, Ext h3.n h3 h' ∧ r = mpV (withB m b) vo vp rb ∧ MpAt (fun k => F k ∨ h3.n ≤ k) h' (withB m b) vo vp rb) := fun _ => by
    refine (wb_x b (hm.ext E3 (Nat.le_refl _)) (up47 sb) hbk (ha.ext E3 (Nat.le_refl _)) (hw.ext E3 (Nat.le_refl _)) la lw hi).mono ?_
    rintro _ h4 ⟨e4, rb, rfl, ib⟩
    have hm4 := (hm.ext E3 (Nat.le_refl _)).ext e4 (Nat.le_refl _)
    exact ⟨rb, e4, rfl, hm4.o.lift fun b hb _ => ⟨rfl, .inl hb⟩, hm4.p.lift fun b hb _ => ⟨rfl, .inl hb⟩, ib.lift fun b hb _ => ⟨rfl, .inr hb⟩⟩
  have hfin : (if goodF (withB m b) = true then (0 : Int) else 22) = errC (withB m b) := by unfold errC; rw [check_good]
  cases hb : (bucketF m b.id) with
  | none =>
    rw [hb] at key
    by_cases ci : b.items = []
    · have ci0 : ((b.items.length : Int) == 0) = true := by rw [ci]; rfl
      simp only [core, Nat.reduceAdd, Nat.reduceSub, Nat.reduceMul, Nat.reduceLT, Nat.reduceEqDiff, reduceCtorEq, Nat.reduceLeDiff, Int.reduceLE, Int.reduceLT, Int.reduceToNat, q1, q2, bktV, ← hh3, hb, ci0, a1, w1, a2, a3, LP3, LB3, lP3, lB3, Option.isSome_none, Option.isNone_none]
      rw [if_pos ci]
      first | exact ⟨E3, rfl⟩ | exact E3
    · have ci0 : ((b.items.length : Int) == 0) = false := by
        rw [Bool.eq_false_iff]
        intro hh
        simp at hh
        exact ci hh
      simp only [core, Nat.reduceAdd, Nat.reduceSub, Nat.reduceMul, Nat.reduceLT, Nat.reduceEqDiff, reduceCtorEq, Nat.reduceLeDiff, Int.reduceLE, Int.reduceLT, Int.reduceToNat, q1, q2, bktV, ← hh3, hb, ci0, a1, w1, a2, a3, LP3, LB3, lP3, lB3, Option.isSome_none, Option.isNone_none]
      rw [if_neg ci, hfin]
      refine (key (fun hh => ci hh.2)).mono ?_
      rintro _ h4 ⟨rb, e4, rfl, hm4⟩
      simp only [core, Nat.reduceAdd, Nat.reduceSub, Nat.reduceMul, Nat.reduceLT, Nat.reduceEqDiff, reduceCtorEq, Nat.reduceLeDiff, Int.reduceLE, Int.reduceLT, Int.reduceToNat]
      refine (check_x hm4 (withB_ok sb hbk la lw)).mono ?_
      rintro _ h5 ⟨e5, rfl⟩
      simp only [core, Nat.reduceAdd, Nat.reduceSub, Nat.reduceMul, Nat.reduceLT, Nat.reduceEqDiff, reduceCtorEq, Nat.reduceLeDiff, Int.reduceLE, Int.reduceLT, Int.reduceToNat]
      first | exact ⟨(E3.step e4).step e5, trivial⟩ | exact (E3.step e4).step e5
  | some y =>
    rw [hb] at key
    simp only [core, Nat.reduceAdd, Nat.reduceSub, Nat.reduceMul, Nat.reduceLT, Nat.reduceEqDiff, reduceCtorEq, Nat.reduceLeDiff, Int.reduceLE, Int.reduceLT, Int.reduceToNat, q1, q2, bktV, ← hh3, hb, a1, w1, a2, a3, LP3, LB3, lP3, lB3, Option.isSome_some, Option.isNone_some]
    rw [if_neg (fun hh => by cases hh.1), hfin]
    refine (key (fun hh => by cases hh.1)).mono ?_
    rintro _ h4 ⟨rb, e4, rfl, hm4⟩
    simp only [core, Nat.reduceAdd, Nat.reduceSub, Nat.reduceMul, Nat.reduceLT, Nat.reduceEqDiff, reduceCtorEq, Nat.reduceLeDiff, Int.reduceLE, Int.reduceLT, Int.reduceToNat]
    refine (check_x hm4 (withB_ok sb hbk la lw)).mono ?_
    rintro _ h5 ⟨e5, rfl⟩
    simp only [core, Nat.reduceAdd, Nat.reduceSub, Nat.reduceMul, Nat.reduceLT, Nat.reduceEqDiff, reduceCtorEq, Nat.reduceLeDiff, Int.reduceLE, Int.reduceLT, Int.reduceToNat]
    first | exact ⟨(E3.step e4).step e5, trivial⟩ | exact (E3.step e4).step e5
theorem May_x {F : Nat → Prop} {H : AH} {m : MapD} {vo vp vb va vw : AV} (c : ChD) (hm : MpAt F H m vo vp vb) (so : Sm 40 m.osds) (sp : Sm 32 m.pools) (sb : (m.buckets.length + 1) * 64 ≤ 140737488351232) (hbk : ∀ b ∈ m.buckets, Sm 8 b.items ∧ Sm 8 b.weights) (ha : IsSl RInt F H va c.bucket.items) (hw : IsSl RInt F H vw c.bucket.weights) (la : Sm 8 c.bucket.items) (lw : Sm 8 c.bucket.weights) (hi : I64 c.bucket.id ∧ I64 c.bucket.kind) :
    WC Try.prog (tabOf Try.prog NT0) S0 71 [mpV m vo vp vb, chV c va vw] H fun r h' => Ext H.n H h' ∧ r = .lit (.int .i64 (chMay m c)) := by
  refine WC_fn Try.func71 rfl rfl ?_
  have o1 := hm.o.one
  have o2 := hm.p.one
  have o3 := hm.b.one
  have a1 := ha.one
  have w1 := hw.one
  have a2 := ha.isSl
  have w2 := hw.isSl
  simp only [core, Nat.reduceAdd, Nat.reduceSub, Nat.reduceMul, Nat.reduceLT, Nat.reduceEqDiff, reduceCtorEq, Nat.reduceLeDiff, Int.reduceLE, Int.reduceLT, Int.reduceToNat, Try.ntmps71, mpV, chV, o1, o2, o3, a1, w1]
  obtain ⟨hp, hhp⟩ : ∃ hp, hp = (H.push (.cells [.lit (.int .i64 m.epoch), vo, vp, vb, .lit (.int .i64 m.leaf)] 31)).push (.cells [.lit (.int .i64 c.kind), .lit (.int .i64 c.osd), .lit (.int .i64 c.value), .lit (.int .i64 c.pool.id), .lit (.int .i64 c.pool.size), .lit (.int .i64 c.pool.min), .lit (.int .i64 c.pool.pgs), .lit (.int .i64 c.bucket.id), .lit (.int .i64 c.bucket.kind), va, vw] 96) := ⟨_, rfl⟩
  have EP : Ext H.n H hp := hhp ▸ ((Ext.refl _ _).push _ (Nat.le_refl _)).push _ (by rw [n_push]; omega)
  have P0 : hp.at H.n = some (.cells [.lit (.int .i64 m.epoch), vo, vp, vb, .lit (.int .i64 m.leaf)] 31) := hhp ▸ (at_push_lt _ (by rw [n_push]; omega)).trans (at_push_n _ _)
  have B0 : hp.at (H.n + 1) = some (.cells [.lit (.int .i64 c.kind), .lit (.int .i64 c.osd), .lit (.int .i64 c.value), .lit (.int .i64 c.pool.id), .lit (.int .i64 c.pool.size), .lit (.int .i64 c.pool.min), .lit (.int .i64 c.pool.pgs), .lit (.int .i64 c.bucket.id), .lit (.int .i64 c.bucket.kind), va, vw] 96) := hhp ▸ at_push_n _ _
  have LP0 := ld_at (T := tabOf Try.prog NT0) P0
  have LB0 := ld_at (T := tabOf Try.prog NT0) B0
  have lP0 := at_lt P0
  have lB0 := at_lt B0
  rw [← hhp]
  clear hhp
  have hmp := hm.ext EP (Nat.le_refl _)
  have hap := ha.ext EP (Nat.le_refl _)
  have hwp := hw.ext EP (Nat.le_refl _)
  have hO : isOs c.kind → chMay m c = if c.osd < 0 ∨ 8 ≤ c.osd then 22 else mayOsdF m c := fun h => by unfold chMay; rw [if_pos h]
  by_cases k1 : c.kind = 1
  · have k1e : (c.kind == 1) = true := by simp [k1]
    rw [hO (by unfold isOs; omega)]
    by_cases c1 : c.osd < 0
    · rw [if_pos (.inl c1)]
      simp only [core, Nat.reduceAdd, Nat.reduceSub, Nat.reduceMul, Nat.reduceLT, Nat.reduceEqDiff, reduceCtorEq, Nat.reduceLeDiff, Int.reduceLE, Int.reduceLT, Int.reduceToNat, LP0, LB0, lP0, lB0, o1, o2, o3, a1, w1, a2, w2, k1e, c1]
      first | exact ⟨EP, trivial⟩ | exact EP
    by_cases c2 : 8 ≤ c.osd
    · rw [if_pos (.inr c2)]
      simp only [core, Nat.reduceAdd, Nat.reduceSub, Nat.reduceMul, Nat.reduceLT, Nat.reduceEqDiff, reduceCtorEq, Nat.reduceLeDiff, Int.reduceLE, Int.reduceLT, Int.reduceToNat, LP0, LB0, lP0, lB0, o1, o2, o3, a1, w1, a2, w2, k1e, c1, c2]
      first | exact ⟨EP, trivial⟩ | exact EP
    rw [if_neg (by omega)]
    simp only [core, Nat.reduceAdd, Nat.reduceSub, Nat.reduceMul, Nat.reduceLT, Nat.reduceEqDiff, reduceCtorEq, Nat.reduceLeDiff, Int.reduceLE, Int.reduceLT, Int.reduceToNat, LP0, LB0, lP0, lB0, o1, o2, o3, a1, w1, a2, w2, k1e, c1, c2]
    refine (mayOsd_x c hmp so a1 w1).mono ?_
    rintro _ h2 ⟨e2, rfl⟩
    simp only [core, Nat.reduceAdd, Nat.reduceSub, Nat.reduceMul, Nat.reduceLT, Nat.reduceEqDiff, reduceCtorEq, Nat.reduceLeDiff, Int.reduceLE, Int.reduceLT, Int.reduceToNat]
    first | exact ⟨EP.step e2, trivial⟩ | exact EP.step e2
  have k1e : (c.kind == 1) = false := by simp [k1]
  by_cases k2 : c.kind = 2
  · have k2e : (c.kind == 2) = true := by simp [k2]
    rw [hO (by unfold isOs; omega)]
    by_cases c1 : c.osd < 0
    · rw [if_pos (.inl c1)]
      simp only [core, Nat.reduceAdd, Nat.reduceSub, Nat.reduceMul, Nat.reduceLT, Nat.reduceEqDiff, reduceCtorEq, Nat.reduceLeDiff, Int.reduceLE, Int.reduceLT, Int.reduceToNat, LP0, LB0, lP0, lB0, o1, o2, o3, a1, w1, a2, w2, k1e, k2e, c1]
      first | exact ⟨EP, trivial⟩ | exact EP
    by_cases c2 : 8 ≤ c.osd
    · rw [if_pos (.inr c2)]
      simp only [core, Nat.reduceAdd, Nat.reduceSub, Nat.reduceMul, Nat.reduceLT, Nat.reduceEqDiff, reduceCtorEq, Nat.reduceLeDiff, Int.reduceLE, Int.reduceLT, Int.reduceToNat, LP0, LB0, lP0, lB0, o1, o2, o3, a1, w1, a2, w2, k1e, k2e, c1, c2]
      first | exact ⟨EP, trivial⟩ | exact EP
    rw [if_neg (by omega)]
    simp only [core, Nat.reduceAdd, Nat.reduceSub, Nat.reduceMul, Nat.reduceLT, Nat.reduceEqDiff, reduceCtorEq, Nat.reduceLeDiff, Int.reduceLE, Int.reduceLT, Int.reduceToNat, LP0, LB0, lP0, lB0, o1, o2, o3, a1, w1, a2, w2, k1e, k2e, c1, c2]
    refine (mayOsd_x c hmp so a1 w1).mono ?_
    rintro _ h2 ⟨e2, rfl⟩
    simp only [core, Nat.reduceAdd, Nat.reduceSub, Nat.reduceMul, Nat.reduceLT, Nat.reduceEqDiff, reduceCtorEq, Nat.reduceLeDiff, Int.reduceLE, Int.reduceLT, Int.reduceToNat]
    first | exact ⟨EP.step e2, trivial⟩ | exact EP.step e2
  have k2e : (c.kind == 2) = false := by simp [k2]
  by_cases k3 : c.kind = 3
  · have k3e : (c.kind == 3) = true := by simp [k3]
    rw [hO (by unfold isOs; omega)]
    by_cases c1 : c.osd < 0
    · rw [if_pos (.inl c1)]
      simp only [core, Nat.reduceAdd, Nat.reduceSub, Nat.reduceMul, Nat.reduceLT, Nat.reduceEqDiff, reduceCtorEq, Nat.reduceLeDiff, Int.reduceLE, Int.reduceLT, Int.reduceToNat, LP0, LB0, lP0, lB0, o1, o2, o3, a1, w1, a2, w2, k1e, k2e, k3e, c1]
      first | exact ⟨EP, trivial⟩ | exact EP
    by_cases c2 : 8 ≤ c.osd
    · rw [if_pos (.inr c2)]
      simp only [core, Nat.reduceAdd, Nat.reduceSub, Nat.reduceMul, Nat.reduceLT, Nat.reduceEqDiff, reduceCtorEq, Nat.reduceLeDiff, Int.reduceLE, Int.reduceLT, Int.reduceToNat, LP0, LB0, lP0, lB0, o1, o2, o3, a1, w1, a2, w2, k1e, k2e, k3e, c1, c2]
      first | exact ⟨EP, trivial⟩ | exact EP
    rw [if_neg (by omega)]
    simp only [core, Nat.reduceAdd, Nat.reduceSub, Nat.reduceMul, Nat.reduceLT, Nat.reduceEqDiff, reduceCtorEq, Nat.reduceLeDiff, Int.reduceLE, Int.reduceLT, Int.reduceToNat, LP0, LB0, lP0, lB0, o1, o2, o3, a1, w1, a2, w2, k1e, k2e, k3e, c1, c2]
    refine (mayOsd_x c hmp so a1 w1).mono ?_
    rintro _ h2 ⟨e2, rfl⟩
    simp only [core, Nat.reduceAdd, Nat.reduceSub, Nat.reduceMul, Nat.reduceLT, Nat.reduceEqDiff, reduceCtorEq, Nat.reduceLeDiff, Int.reduceLE, Int.reduceLT, Int.reduceToNat]
    first | exact ⟨EP.step e2, trivial⟩ | exact EP.step e2
  have k3e : (c.kind == 3) = false := by simp [k3]
  by_cases k4 : c.kind = 4
  · have k4e : (c.kind == 4) = true := by simp [k4]
    rw [hO (by unfold isOs; omega)]
    by_cases c1 : c.osd < 0
    · rw [if_pos (.inl c1)]
      simp only [core, Nat.reduceAdd, Nat.reduceSub, Nat.reduceMul, Nat.reduceLT, Nat.reduceEqDiff, reduceCtorEq, Nat.reduceLeDiff, Int.reduceLE, Int.reduceLT, Int.reduceToNat, LP0, LB0, lP0, lB0, o1, o2, o3, a1, w1, a2, w2, k1e, k2e, k3e, k4e, c1]
      first | exact ⟨EP, trivial⟩ | exact EP
    by_cases c2 : 8 ≤ c.osd
    · rw [if_pos (.inr c2)]
      simp only [core, Nat.reduceAdd, Nat.reduceSub, Nat.reduceMul, Nat.reduceLT, Nat.reduceEqDiff, reduceCtorEq, Nat.reduceLeDiff, Int.reduceLE, Int.reduceLT, Int.reduceToNat, LP0, LB0, lP0, lB0, o1, o2, o3, a1, w1, a2, w2, k1e, k2e, k3e, k4e, c1, c2]
      first | exact ⟨EP, trivial⟩ | exact EP
    rw [if_neg (by omega)]
    simp only [core, Nat.reduceAdd, Nat.reduceSub, Nat.reduceMul, Nat.reduceLT, Nat.reduceEqDiff, reduceCtorEq, Nat.reduceLeDiff, Int.reduceLE, Int.reduceLT, Int.reduceToNat, LP0, LB0, lP0, lB0, o1, o2, o3, a1, w1, a2, w2, k1e, k2e, k3e, k4e, c1, c2]
    refine (mayOsd_x c hmp so a1 w1).mono ?_
    rintro _ h2 ⟨e2, rfl⟩
    simp only [core, Nat.reduceAdd, Nat.reduceSub, Nat.reduceMul, Nat.reduceLT, Nat.reduceEqDiff, reduceCtorEq, Nat.reduceLeDiff, Int.reduceLE, Int.reduceLT, Int.reduceToNat]
    first | exact ⟨EP.step e2, trivial⟩ | exact EP.step e2
  have k4e : (c.kind == 4) = false := by simp [k4]
  by_cases k5 : c.kind = 5
  · have k5e : (c.kind == 5) = true := by simp [k5]
    have hC : chMay m c = mayPoolF m c.pool := by unfold chMay; rw [if_neg (by unfold isOs; omega), if_pos k5]
    rw [hC]
    simp only [core, Nat.reduceAdd, Nat.reduceSub, Nat.reduceMul, Nat.reduceLT, Nat.reduceEqDiff, reduceCtorEq, Nat.reduceLeDiff, Int.reduceLE, Int.reduceLT, Int.reduceToNat, LP0, LB0, lP0, lB0, o1, o2, o3, a1, w1, a2, w2, k1e, k2e, k3e, k4e, k5e]
    refine (mayPool_x c.pool hmp sp).mono ?_
    rintro _ h2 ⟨e2, rfl⟩
    simp only [core, Nat.reduceAdd, Nat.reduceSub, Nat.reduceMul, Nat.reduceLT, Nat.reduceEqDiff, reduceCtorEq, Nat.reduceLeDiff, Int.reduceLE, Int.reduceLT, Int.reduceToNat]
    first | exact ⟨EP.step e2, trivial⟩ | exact EP.step e2
  have k5e : (c.kind == 5) = false := by simp [k5]
  by_cases k6 : c.kind = 6
  · have k6e : (c.kind == 6) = true := by simp [k6]
    have hC : chMay m c = mayBktF m c.bucket := by unfold chMay; rw [if_neg (by unfold isOs; omega), if_neg k5, if_pos k6]
    rw [hC]
    simp only [core, Nat.reduceAdd, Nat.reduceSub, Nat.reduceMul, Nat.reduceLT, Nat.reduceEqDiff, reduceCtorEq, Nat.reduceLeDiff, Int.reduceLE, Int.reduceLT, Int.reduceToNat, LP0, LB0, lP0, lB0, o1, o2, o3, a1, w1, a2, w2, k1e, k2e, k3e, k4e, k5e, k6e]
    refine (mayBkt_x c.bucket hmp sb hbk hap hwp la lw hi).mono ?_
    rintro _ h2 ⟨e2, rfl⟩
    simp only [core, Nat.reduceAdd, Nat.reduceSub, Nat.reduceMul, Nat.reduceLT, Nat.reduceEqDiff, reduceCtorEq, Nat.reduceLeDiff, Int.reduceLE, Int.reduceLT, Int.reduceToNat]
    first | exact ⟨EP.step e2, trivial⟩ | exact EP.step e2
  have k6e : (c.kind == 6) = false := by simp [k6]
  by_cases k7 : c.kind = 7
  · have k7e : (c.kind == 7) = true := by simp [k7]
    have hC : chMay m c = if c.value < 0 ∨ 3 < c.value then 22 else 0 := by unfold chMay; rw [if_neg (by unfold isOs; omega), if_neg k5, if_neg k6, if_pos k7]
    rw [hC]
    by_cases c1 : c.value < 0
    · rw [if_pos (.inl c1)]
      simp only [core, Nat.reduceAdd, Nat.reduceSub, Nat.reduceMul, Nat.reduceLT, Nat.reduceEqDiff, reduceCtorEq, Nat.reduceLeDiff, Int.reduceLE, Int.reduceLT, Int.reduceToNat, LP0, LB0, lP0, lB0, o1, o2, o3, a1, w1, a2, w2, k1e, k2e, k3e, k4e, k5e, k6e, k7e, c1]
      first | exact ⟨EP, trivial⟩ | exact EP
    by_cases c2 : 3 < c.value
    · rw [if_pos (.inr c2)]
      simp only [core, Nat.reduceAdd, Nat.reduceSub, Nat.reduceMul, Nat.reduceLT, Nat.reduceEqDiff, reduceCtorEq, Nat.reduceLeDiff, Int.reduceLE, Int.reduceLT, Int.reduceToNat, LP0, LB0, lP0, lB0, o1, o2, o3, a1, w1, a2, w2, k1e, k2e, k3e, k4e, k5e, k6e, k7e, c1, c2]
      first | exact ⟨EP, trivial⟩ | exact EP
    rw [if_neg (by omega)]
    simp only [core, Nat.reduceAdd, Nat.reduceSub, Nat.reduceMul, Nat.reduceLT, Nat.reduceEqDiff, reduceCtorEq, Nat.reduceLeDiff, Int.reduceLE, Int.reduceLT, Int.reduceToNat, LP0, LB0, lP0, lB0, o1, o2, o3, a1, w1, a2, w2, k1e, k2e, k3e, k4e, k5e, k6e, k7e, c1, c2]
    first | exact ⟨EP, trivial⟩ | exact EP
  have k7e : (c.kind == 7) = false := by simp [k7]
  have hC : chMay m c = 22 := by unfold chMay; rw [if_neg (by unfold isOs; omega), if_neg k5, if_neg k6, if_neg k7]
  rw [hC]
  simp only [core, Nat.reduceAdd, Nat.reduceSub, Nat.reduceMul, Nat.reduceLT, Nat.reduceEqDiff, reduceCtorEq, Nat.reduceLeDiff, Int.reduceLE, Int.reduceLT, Int.reduceToNat, LP0, LB0, lP0, lB0, o1, o2, o3, a1, w1, a2, w2, k1e, k2e, k3e, k4e, k5e, k6e, k7e]
  first | exact ⟨EP, trivial⟩ | exact EP
end Go.Proofs.Ytkgbeihcepociaa.Ex
end

section

set_option linter.unusedSimpArgs false
set_option linter.unusedVariables false
set_option maxRecDepth 10000
set_option maxHeartbeats 4000000
namespace Go.Proofs.Ytkgbeihcepociaa.Ex
open Go
section
variable {α : Type}
/-- Elements whose cells are known. -/
structure FlatC (R : Rep α) (cf : α → List AV) (z : Nat) (ok : α → Prop) : Prop where
  hz : R.z = z
  z0 : 0 < z
  len : ∀ x, (cf x).length = z
  is : ∀ F h c x, R.is F h c x ↔ c = cf x ∧ ok x
variable {R : Rep α} {cf : α → List AV} {z : Nat} {ok : α → Prop}
theorem FlatC.flat (hR : FlatC R cf z ok) : FlatR R := fun F G h h' c x hh => (hR.is _ _ _ _).2 ((hR.is _ _ _ _).1 hh)
theorem flatMap_len (hl : ∀ x, (cf x).length = z) : ∀ l : List α, (l.flatMap cf).length = l.length * z
  | [] => by simp
  | x :: r => by rw [List.flatMap_cons, List.length_append, flatMap_len hl r, hl, List.length_cons, Nat.succ_mul]; omega
theorem flatMap_split {l : List α} {i : Nat} {x : α} (hx : l[i]? = some x) : l.flatMap cf = (l.take i).flatMap cf ++ (cf x ++ (l.drop (i + 1)).flatMap cf) := by
  obtain ⟨hi, rfl⟩ := List.getElem?_eq_some_iff.1 hx
  conv => lhs; rw [← List.take_append_drop i l, List.drop_eq_getElem_cons hi]
  rw [List.flatMap_append, List.flatMap_cons]
theorem put_flat {l : List α} {i k : Nat} {x y : α} {v : AV} (hl : ∀ x, (cf x).length = z) (hx : l[i]? = some x) (hk : k < z) (hy : cf y = (cf x).set k v) : put (l.flatMap cf) (i * z + k) [v] = some ((l.set i y).flatMap cf) := by
  obtain ⟨hi, hxe⟩ := List.getElem?_eq_some_iff.1 hx
  have h2 : (l.set i y)[i]? = some y := by rw [List.getElem?_set_self hi]
  have ht : (l.set i y).take i = l.take i := by rw [List.take_set_of_le (Nat.le_refl i)]
  have hd : (l.set i y).drop (i + 1) = l.drop (i + 1) := by rw [List.drop_set_of_lt (by omega)]
  have h3 := flatMap_len hl (l.take i)
  rw [List.length_take, Nat.min_eq_left (by omega)] at h3
  rw [flatMap_split hx, flatMap_split h2, ht, hd, hy]
  unfold put
  rw [if_pos (by simp only [List.length_append, h3, hl, List.length_singleton]; omega)]
  congr 1
  have hkl : k < (cf x).length := by rw [hl]; exact hk
  have t1 : ((l.take i).flatMap cf ++ (cf x ++ (l.drop (i + 1)).flatMap cf)).take (i * z + k) = (l.take i).flatMap cf ++ (cf x).take k := by
    rw [← h3, List.take_length_add_append, List.take_append_of_le_length (by omega)]
  have t2 : ((l.take i).flatMap cf ++ (cf x ++ (l.drop (i + 1)).flatMap cf)).drop (i * z + k + [v].length) = (cf x).drop (k + 1) ++ (l.drop (i + 1)).flatMap cf := by
    rw [show i * z + k + [v].length = ((l.take i).flatMap cf).length + (k + 1) by rw [h3]; rfl, List.drop_length_add_append, List.drop_append_of_le_length (by omega)]
  rw [t1, t2, List.set_eq_take_append_cons_drop, if_pos hkl]
  simp only [List.append_assoc, List.cons_append, List.nil_append]
theorem put_el {l : List α} {i : Nat} {y : α} (hl : ∀ x, (cf x).length = z) (hi : i < l.length) : put (l.flatMap cf) (i * z) (cf y) = some ((l.set i y).flatMap cf) := by
  have hx : l[i]? = some l[i] := List.getElem?_eq_getElem hi
  have h2 : (l.set i y)[i]? = some y := by rw [List.getElem?_set_self hi]
  have ht : (l.set i y).take i = l.take i := by rw [List.take_set_of_le (Nat.le_refl i)]
  have hd : (l.set i y).drop (i + 1) = l.drop (i + 1) := by rw [List.drop_set_of_lt (by omega)]
  have h3 := flatMap_len hl (l.take i)
  rw [List.length_take, Nat.min_eq_left (by omega)] at h3
  rw [flatMap_split hx, flatMap_split h2, ht, hd]
  unfold put
  rw [if_pos (by simp only [List.length_append, h3, hl]; omega)]
  congr 1
  have hkl : (cf l[i]).length = z := hl _
  have t1 : ((l.take i).flatMap cf ++ (cf l[i] ++ (l.drop (i + 1)).flatMap cf)).take (i * z) = (l.take i).flatMap cf := List.take_left' h3
  have t2 : ((l.take i).flatMap cf ++ (cf l[i] ++ (l.drop (i + 1)).flatMap cf)).drop (i * z + (cf y).length) = (l.drop (i + 1)).flatMap cf := by
    rw [← List.append_assoc]
    exact List.drop_left' (by rw [List.length_append, h3, hl, hl])
  rw [t1, t2, List.append_assoc]
/-- A row of the run's own, as cells. -/
theorem OwnL.row {G : Nat → Prop} {n0 : Nat} {h : AH} {v : AV} {e : TypeId} {xs : List α} (hR : FlatC R cf z ok) (ho : OwnL R G n0 h v e xs) (hne : xs ≠ []) :
    ∃ p, v = .sl p 0 xs.length (.un z) ∧ n0 ≤ p ∧ h.at p = some (.cells (xs.flatMap cf) e) ∧ ∀ x ∈ xs, ok x := by
  obtain ⟨L, ⟨h1, h2⟩, h3, h4⟩ := ho
  rcases h2 with ⟨rfl, rfl⟩ | ⟨p, rfl, hp, hat⟩
  · exact absurd (List.eq_nil_of_length_eq_zero h3.symm) hne
  · have hL : ∀ (L : List (List AV)) (xs : List α), L.length = xs.length → (∀ (i : Nat) c x, L[i]? = some c → xs[i]? = some x → c = cf x) → L.flatten = xs.flatMap cf := by
      intro L
      induction L with
      | nil => intro xs hl _; cases xs with | nil => rfl | cons => cases hl
      | cons a r ih =>
        intro xs hl hh
        cases xs with
        | nil => cases hl
        | cons x xs =>
          rw [List.flatten_cons, List.flatMap_cons, hh 0 a x rfl rfl, ih xs (by simpa using hl) (fun i c y a b => hh (i + 1) c y (by simpa using a) (by simpa using b))]
    refine ⟨p, by rw [h3, hR.hz], hp, by rw [hat, hL L xs h3 fun i c x a b => ((hR.is _ _ _ _).1 (h4 i c x a b)).1], fun x hx => ?_⟩
    obtain ⟨i, hi, rfl⟩ := List.mem_iff_getElem.1 hx
    exact ((hR.is _ _ _ _).1 (h4 i L[i] xs[i] (List.getElem?_eq_getElem (by omega)) (List.getElem?_eq_getElem hi))).2
theorem OwnL.ofRow {G : Nat → Prop} {n0 : Nat} {h : AH} {e : TypeId} {xs : List α} {p n : Nat} (hR : FlatC R cf z ok) (hn : n = xs.length) (hp : n0 ≤ p) (hat : h.at p = some (.cells (xs.flatMap cf) e)) (hx : ∀ x ∈ xs, ok x) : OwnL R G n0 h (.sl p 0 n (.un z)) e xs := by
  subst hn
  refine ⟨xs.map cf, ⟨?_, .inr ⟨p, ?_, hp, ?_⟩⟩, ?_, fun i c x h1 h2 => ?_⟩
  · intro c hc; obtain ⟨n, _, rfl⟩ := List.mem_map.1 hc; rw [hR.len, hR.hz]
  · rw [List.length_map, hR.hz]
  · rw [hat, List.flatMap_def]
  · simp
  · rw [List.getElem?_map, h2] at h1
    simp only [Option.map_some, Option.some.injEq] at h1
    exact (hR.is _ _ _ _).2 ⟨h1.symm, hx x (List.mem_of_getElem? h2)⟩
/-- One more behind an own row of flat elements. -/
theorem OwnE.snoc {T : TT} {t e e' : TypeId} {by' p n0 : Nat} {zv : AV} {c : List AV} {y : α} {cap : Cap} {h : AH} {v : AV} {xs : List α} (hR : FlatC R cf z ok) (ho : OwnE R n0 h v e xs) (hu : und T t = some (.slice e)) (hz : sizeT T e = some R.z) (hzv : zeroT T e = some zv) (hb : bytesT T e = some by')
    (hzl : zv.cells.length = R.z) (h0 : 0 < R.z) (h200 : R.z ≤ 200) (hp : h.at p = some (.cells c e')) (hc : R.is (fun _ => False) h c y) (hn : xs.length + 1 ≤ 4611686018427387904) (hby : (xs.length + 1) * by' ≤ 140737488355328) (hn0 : n0 ≤ h.n) :
    ∃ s' h', appendA T h t t v (.sl p 0 1 cap) = some (s', h') ∧ OwnE R n0 h' s' e (xs ++ [y]) ∧ Fr h v h' s' := by
  rcases ho with ho | ⟨rfl, q, hq, rfl, hat⟩
  · obtain ⟨s', h', a, b, d, f⟩ := ho.snoc hu hu hz hzv hb hzl h0 h200 hp (cap := cap) (hR.flat _ _ _ _ _ _ hc) hn hby hn0
    exact ⟨s', h', a, .inl b, d.1, f⟩
  · obtain ⟨rfl, hok⟩ := (hR.is _ _ _ _).1 hc
    have hg : getR h p = some (cf y) := by unfold getR; rw [hp]
    have hl1 : (cf y).length = R.z := by rw [hR.len, hR.hz]
    rcases append_fresh (T := T) (h := h) (t := t) (tx := t) (e := e) (M := [cf y]) (p := q) (x := .sl p 0 1 cap) hu hu hz hzv hb hzl h0 h200 hat (by
        simp only [srcA, hg, cut]
        rw [if_pos (by omega)]
        simp [hl1 ▸ List.take_length]) rfl (by intro c hc; rw [List.mem_singleton.1 hc, hl1]) (by rw [List.flatten_cons, List.flatten_nil, List.append_nil, List.all_eq_true]; exact fun v hv => R.one hc v hv) (by simp) (by simpa using hby) with ⟨hM, ha⟩ | ⟨hM, ha⟩
    · cases hM
    · refine ⟨_, _, ha, .inl ?_, by rw [n_push]; omega, fun b hb hab => ⟨at_push_lt _ hb, fun off n cap e => by cases e; omega⟩⟩
      have := OwnL.ofRow (G := fun _ => False) (n0 := n0) (h := h.push (.cells [cf y].flatten e)) (e := e) (xs := [y]) (p := h.n) (n := 1) hR rfl hn0 (by rw [at_push_n]; simp) (fun x hx => by rw [List.mem_singleton.1 hx]; exact hok)
      rw [hR.hz]
      exact this
/-- Rows of other elements lie elsewhere. -/
theorem OwnE.sep {β : Type} {R : Rep α} {S : Rep β} {n0 n1 : Nat} {h : AH} {v u : AV} {e e2 : TypeId} {xs : List α} {ys : List β} (ho : OwnE R n0 h v e xs) (hu : OwnE S n1 h u e2 ys) (hne : e ≠ e2) : ∀ b off n cap, v = .sl b off n cap → Apart u b := by
  have hat : ∀ {γ : Type} {R : Rep γ} {n0 : Nat} {v : AV} {e : TypeId} {xs : List γ}, OwnE R n0 h v e xs → ∀ b off n cap, v = .sl b off n cap → ∃ l, h.at b = some (.cells l e) := by
    intro γ R n0 v e xs ho b off n cap hv
    rcases ho with ⟨L, h1, h2⟩ | ⟨rfl, p, hp, rfl, hat⟩
    · rcases h1.2 with ⟨hh, _⟩ | ⟨p, hh, hp, hat⟩
      · rw [hh] at hv; cases hv
      · rw [hh] at hv; cases hv; exact ⟨_, hat⟩
    · cases hv; exact ⟨_, hat⟩
  intro b off n cap hv off2 n2 cap2 hu2
  obtain ⟨l1, k1⟩ := hat ho b off n cap hv
  obtain ⟨l2, k2⟩ := hat hu b off2 n2 cap2 hu2
  rw [k1] at k2
  cases k2
  exact hne rfl
theorem OwnE.keep {R : Rep α} {n0 : Nat} {h h' : AH} {v : AV} {e : TypeId} {xs : List α} (ho : OwnE R n0 h v e xs) (hk : ∀ b off n cap, v = .sl b off n cap → h'.at b = h.at b) : OwnE R n0 h' v e xs := by
  rcases ho with ho | ⟨rfl, p, hp, rfl, hat⟩
  · exact .inl (ho.lift hk (fun b hb => hb.elim))
  · exact .inr ⟨rfl, p, hp, rfl, (hk _ _ _ _ rfl).trans hat⟩
theorem OwnE.blt {R : Rep α} {n0 : Nat} {h : AH} {v : AV} {e : TypeId} {xs : List α} (ho : OwnE R n0 h v e xs) : ∀ b off n cap, v = .sl b off n cap → b < h.n := by
  intro b off n cap hv
  rcases ho with ⟨L, h1, h2⟩ | ⟨rfl, p, hp, rfl, hat⟩
  · rcases h1.2 with ⟨hh, _⟩ | ⟨p, hh, hp, hat⟩
    · rw [hh] at hv; cases hv
    · rw [hh] at hv; cases hv; exact at_lt hat
  · cases hv; exact at_lt hat
/-- A row beside one that grows. -/
theorem OwnE.fr {β : Type} {R : Rep α} {S : Rep β} {n0 n1 : Nat} {h h' : AH} {v u u' : AV} {e e2 : TypeId} {xs : List α} {ys : List β} (ho : OwnE R n0 h v e xs) (hu : OwnE S n1 h u e2 ys) (hne : e ≠ e2) (f : Fr h u h' u') : OwnE R n0 h' v e xs :=
  ho.keep fun b off n cap hv => (f.2 b (ho.blt b off n cap hv) (ho.sep hu hne b off n cap hv)).1
end
section
def oC' (o : OsdD) : List AV := [.lit (.bool o.ex), .lit (.bool o.up), .lit (.int .i64 o.weight), .lit (.int .i64 o.boot), .lit (.int .i64 o.upFrom), .lit (.int .i64 o.upThru)]
def okO (x : OsdD) : Prop := I64 x.weight ∧ I64 x.boot ∧ I64 x.upFrom ∧ I64 x.upThru
theorem flatO : FlatC ROsd oC' 6 okO := ⟨rfl, by decide, fun x => rfl, fun F h c x => ROsd_is⟩
def pC' (p : PoolD) : List AV := [.lit (.int .i64 p.id), .lit (.int .i64 p.size), .lit (.int .i64 p.min), .lit (.int .i64 p.pgs)]
def okP (x : PoolD) : Prop := I64 x.id ∧ I64 x.size ∧ I64 x.min ∧ I64 x.pgs
theorem flatP : FlatC RPool pC' 4 okP := ⟨rfl, by decide, fun x => rfl, fun F h c x => RPool_is⟩
end
end Go.Proofs.Ytkgbeihcepociaa.Ex
end

section

set_option linter.unusedSimpArgs false
set_option linter.unusedVariables false
set_option maxRecDepth 10000
set_option maxHeartbeats 4000000
namespace Go.Proofs.Ytkgbeihcepociaa.Ex
open Go
/-- What a change must be read as. -/
structure ChIn (F : Nat → Prop) (H : AH) (c : ChD) (va vw : AV) : Prop where
  a : IsSl RInt F H va c.bucket.items
  w : IsSl RInt F H vw c.bucket.weights
  la : Sm 8 c.bucket.items
  lw : Sm 8 c.bucket.weights
  hi : I64 c.bucket.id ∧ I64 c.bucket.kind
  hp : okP c.pool
  hv : I64 c.value
/-- Sizes of a map that may be changed. -/
structure MpSz (m : MapD) : Prop where
  so : Sm 40 m.osds
  sp : (m.pools.length + 1) * 32 ≤ 140737488351232
  sb : (m.buckets.length + 1) * 64 ≤ 140737488351232
  bk : ∀ b ∈ m.buckets, Sm 8 b.items ∧ Sm 8 b.weights
def mC (m : MapD) (vo vp vb : AV) : AB := .cells [.lit (.int .i64 m.epoch), vo, vp, vb, .lit (.int .i64 m.leaf)] 31
def cC (c : ChD) (va vw : AV) : AB := .cells [.lit (.int .i64 c.kind), .lit (.int .i64 c.osd), .lit (.int .i64 c.value), .lit (.int .i64 c.pool.id), .lit (.int .i64 c.pool.size), .lit (.int .i64 c.pool.min), .lit (.int .i64 c.pool.pgs), .lit (.int .i64 c.bucket.id), .lit (.int .i64 c.bucket.kind), va, vw] 96
def mz : AB := .cells [.lit (.int .i64 0), .lit (.slice none 0 0), .lit (.slice none 0 0), .lit (.slice none 0 0), .lit (.int .i64 0)] 31
theorem made_boxes {H : AH} (x y z : AB) : ∃ hp, hp = ((H.push x).push y).push z ∧ Ext H.n H hp ∧ hp.at H.n = some x ∧ hp.at (H.n + 1) = some y ∧ hp.at (H.n + 2) = some z ∧ hp.n = H.n + 3 :=
  ⟨_, rfl, (((Ext.refl _ _).push _ (Nat.le_refl _)).push _ (by rw [n_push]; omega)).push _ (by rw [n_push, n_push]; omega),
    ((at_push_lt _ (by rw [n_push, n_push]; omega)).trans (at_push_lt _ (by rw [n_push]; omega))).trans (at_push_n _ _), (at_push_lt _ (by rw [n_push, n_push]; omega)).trans (at_push_n _ _), at_push_n _ _, by rw [n_push, n_push, n_push]⟩
theorem made6_x {F : Nat → Prop} {H : AH} {m : MapD} {vo vp vb va vw : AV} {n0 p0 : Nat} (c : ChD) (hm : OwnMp n0 p0 H m vo vp vb) (hn0 : n0 ≤ H.n) (hp0 : p0 < H.n) (hz : MpSz m) (hc : ChIn F H c va vw) (hk : c.kind = 6) :
    WC Try.prog (tabOf Try.prog NT0) S0 72 [mpV m vo vp vb, chV c va vw] H fun r h' => Ext n0 H h' ∧ h'.at p0 = H.at p0 ∧ ∃ ro rp rb, r = mpV (chMade m c) ro rp rb ∧ OwnMp n0 p0 h' (chMade m c) ro rp rb := by
  refine WC_fn Try.func72 rfl rfl ?_
  have hmA := hm.at (F := fun _ => True) fun _ _ => trivial
  have o1 := hmA.o.one
  have o2 := hmA.p.one
  have o3 := hmA.b.one
  have a1 := hc.a.one
  have w1 := hc.w.one
  have s1 := hmA.o.isSl
  have s2 := hmA.p.isSl
  have s3 := hmA.b.isSl
  have k5e : (c.kind == 5) = false := by rw [hk]; rfl
  have k6e : (c.kind == 6) = true := by rw [hk]; rfl
  obtain ⟨hp, hhp, EP, P0, C0, Z0, nP⟩ := made_boxes (H := H) (mC m vo vp vb) (cC c va vw) mz
  unfold mC at P0 hhp
  unfold cC at C0 hhp
  unfold mz at Z0 hhp
  have LP := ld_at (T := tabOf Try.prog NT0) P0
  have LC := ld_at (T := tabOf Try.prog NT0) C0
  have lP := at_lt P0
  have lC := at_lt C0
  simp only [core, Nat.reduceAdd, Nat.reduceSub, Nat.reduceMul, Nat.reduceLT, Nat.reduceEqDiff, reduceCtorEq, Nat.reduceLeDiff, Int.reduceLE, Int.reduceLT, Int.reduceToNat, Try.ntmps72, mpV, chV, o1, o2, o3, a1, w1, ← hhp, LP, LC, lP, lC, k5e, k6e, s1, s2, s3]
  refine (wb_x c.bucket (hmA.ext EP (Nat.le_refl _)) (up47 hz.sb) hz.bk ((hc.a.lift (G := fun _ => True) fun _ _ _ => ⟨rfl, trivial⟩).ext EP (Nat.le_refl _)) ((hc.w.lift (G := fun _ => True) fun _ _ _ => ⟨rfl, trivial⟩).ext EP (Nat.le_refl _)) hc.la hc.lw hc.hi).mono ?_
  rintro _ h2 ⟨e2, rb, rfl, ib⟩
  have q3 := ib.one
  have Z2 := (e2.2 _ (at_lt Z0)).trans Z0
  have lZ2 := at_lt Z2
  have hE : chMade m c = withB m c.bucket := by unfold chMade; rw [if_neg (by omega), if_pos hk]
  have l2 := e2.1
  simp only [core, Nat.reduceAdd, Nat.reduceSub, Nat.reduceMul, Nat.reduceLT, Nat.reduceEqDiff, reduceCtorEq, Nat.reduceLeDiff, Int.reduceLE, Int.reduceLT, Int.reduceToNat, mpV, o1, o2, q3, Z2, lZ2]
  have E2 := EP.step e2
  have m2 := hm.ext E2 (Nat.le_refl _)
  refine ⟨(E2.mono hn0).put _ (by omega), (E2.put _ (by omega)).2 _ hp0, vo, vp, rb, by rw [hE], ?_⟩
  rw [hE]
  refine ⟨m2.o.put_ap (hm.o.apart (by omega)), m2.p.put_ap (hm.p.apart (by omega)), ?_, hm.ao, hm.ap⟩
  show IsSl RBkt _ _ rb (withB m c.bucket).buckets
  exact ib.lift fun b hb _ => ⟨at_put_ne _ (by omega), by omega, hm.o.apart (by omega), hm.p.apart (by omega), by omega⟩
theorem made7_x {F : Nat → Prop} {H : AH} {m : MapD} {vo vp vb va vw : AV} {n0 p0 : Nat} (c : ChD) (hm : OwnMp n0 p0 H m vo vp vb) (hn0 : n0 ≤ H.n) (hp0 : p0 < H.n) (hz : MpSz m) (hc : ChIn F H c va vw) (hk : c.kind = 7) :
    WC Try.prog (tabOf Try.prog NT0) S0 72 [mpV m vo vp vb, chV c va vw] H fun r h' => Ext n0 H h' ∧ h'.at p0 = H.at p0 ∧ ∃ ro rp rb, r = mpV (chMade m c) ro rp rb ∧ OwnMp n0 p0 h' (chMade m c) ro rp rb := by
  refine WC_fn Try.func72 rfl rfl ?_
  have hmA := hm.at (F := fun _ => True) fun _ _ => trivial
  have o1 := hmA.o.one
  have o2 := hmA.p.one
  have o3 := hmA.b.one
  have a1 := hc.a.one
  have w1 := hc.w.one
  have s1 := hmA.o.isSl
  have s2 := hmA.p.isSl
  have s3 := hmA.b.isSl
  have k5e : (c.kind == 5) = false := by rw [hk]; rfl
  have k6e : (c.kind == 6) = false := by rw [hk]; rfl
  have k7e : (c.kind == 7) = true := by rw [hk]; rfl
  obtain ⟨hp, hhp, EP, P0, C0, Z0, nP⟩ := made_boxes (H := H) (mC m vo vp vb) (cC c va vw) mz
  unfold mC at P0 hhp
  unfold cC at C0 hhp
  unfold mz at Z0 hhp
  have LP := ld_at (T := tabOf Try.prog NT0) P0
  have LC := ld_at (T := tabOf Try.prog NT0) C0
  have lP := at_lt P0
  have lC := at_lt C0
  have lZ := at_lt Z0
  have hne : ¬ H.n = H.n + 2 := by omega
  have hE : chMade m c = { m with leaf := c.value } := by unfold chMade; rw [if_neg (by omega), if_neg (by omega), if_pos hk]
  simp only [core, Nat.reduceAdd, Nat.reduceSub, Nat.reduceMul, Nat.reduceLT, Nat.reduceEqDiff, reduceCtorEq, Nat.reduceLeDiff, Int.reduceLE, Int.reduceLT, Int.reduceToNat, Try.ntmps72, mpV, chV, o1, o2, o3, a1, w1, ← hhp, LP, LC, P0, Z0, lP, lC, lZ, k5e, k6e, k7e, s1, s2, s3, hne]
  refine ⟨((EP.put _ (Nat.le_refl _)).put _ (by omega)).mono hn0, ((EP.put _ (Nat.le_refl _)).put _ (by omega)).2 _ hp0, vo, vp, vb, by rw [hE], ?_⟩
  rw [hE]
  have mp := hm.ext EP (Nat.le_refl _)
  refine ⟨(mp.o.put_ap (hm.o.apart (by omega))).put_ap (hm.o.apart (by omega)), (mp.p.put_ap (hm.p.apart (by omega))).put_ap (hm.p.apart (by omega)), ?_, hm.ao, hm.ap⟩
  have hbl : IsSl RBkt (fun k => (n0 ≤ k ∧ Apart vo k ∧ Apart vp k ∧ k ≠ p0) ∧ k < H.n) hp vb m.buckets := hm.b.lift fun b hb hlt => ⟨EP.2 _ hlt, hb, hlt⟩
  exact hbl.lift fun b hb _ => ⟨by have := hb.2; rw [at_put_ne _ (by omega), at_put_ne _ (by omega)], hb.1⟩
end Go.Proofs.Ytkgbeihcepociaa.Ex
end

section

set_option linter.unusedSimpArgs false
set_option linter.unusedVariables false
set_option maxRecDepth 10000
set_option maxHeartbeats 4000000
namespace Go.Proofs.Ytkgbeihcepociaa.Ex
open Go
theorem insA_eq {h : AH} {v : AV} {b2 o2 : Nat} {k2 : Cap} {l2 new : List AV} (hv : isSl v = true) (hbig : (lenD v + 1) * 32 ≤ 140737488355328) (hg2 : getR h b2 = some l2) (hc2 : cut l2 o2 4 = some new) (h1 : new.all AV.one = true) :
    appendA (tabOf Try.prog NT0) h 28 28 v (.sl b2 o2 1 k2) = appendB h 94 4 1 new v := by
  have e1 : und (tabOf Try.prog NT0) 28 = some (.slice 94) := by kernel_rfl
  have h00 : (tabOf Try.prog NT0 94).map (fun i => (i.bytes, i.zero.cells.length, i.size)) = some (32, 4, 4) := by kernel_rfl
  obtain ⟨i0, h0, he⟩ := Option.map_eq_some_iff.1 h00
  obtain ⟨hb, hz, hs⟩ : i0.bytes = 32 ∧ i0.zero.cells.length = 4 ∧ i0.size = 4 := by
    simp only [Prod.mk.injEq] at he
    exact he
  have hlv : lenA v = some (lenD v) := by
    obtain ⟨n, ⟨rfl, _⟩ | ⟨b, off, cap, rfl⟩⟩ := SlN.of hv <;> rfl
  have hsrc : srcA h 4 (.sl b2 o2 1 k2) = some new := by
    simp only [srcA, hg2]
    exact hc2
  have hnl : new.length = 4 := by
    unfold cut at hc2
    split at hc2
    · cases hc2
      rw [List.length_take, List.length_drop]
      omega
    · cases hc2
  unfold appendA
  have f1 : Nat.ble (lenD v + 1) 4611686018427387904 = true := Nat.ble_eq_true_of_le (by omega)
  have f2 : Nat.ble ((lenD v + 1) * 32) 140737488355328 = true := Nat.ble_eq_true_of_le hbig
  have hlu : lenA (.sl b2 o2 1 k2) = some 1 := rfl
  rw [e1, hlv, hlu]
  simp only [h0, hb, hz, hs, hsrc, hnl, h1, f1, f2]
  rfl
theorem OwnE.capOk {α : Type} {R : Rep α} {n0 : Nat} {h : AH} {v : AV} {e : TypeId} {xs : List α} (ho : OwnE R n0 h v e xs) : CapOk R.z v := by
  obtain ⟨L, -, -, hc, -⟩ := (ho.toSl (F := fun _ => True) (fun _ _ => trivial)).out
  exact hc
theorem made5_x {F : Nat → Prop} {H : AH} {m : MapD} {vo vp vb va vw : AV} {n0 p0 : Nat} (c : ChD) (hm : OwnMp n0 p0 H m vo vp vb) (hn0 : n0 ≤ H.n) (hp0 : p0 < H.n) (hz : MpSz m) (hc : ChIn F H c va vw) (hk : c.kind = 5) :
    WC Try.prog (tabOf Try.prog NT0) S0 72 [mpV m vo vp vb, chV c va vw] H fun r h' => Ext n0 H h' ∧ h'.at p0 = H.at p0 ∧ ∃ ro rp rb, r = mpV (chMade m c) ro rp rb ∧ OwnMp n0 p0 h' (chMade m c) ro rp rb := by
  refine WC_fn Try.func72 rfl rfl ?_
  have hmA := hm.at (F := fun _ => True) fun _ _ => trivial
  have o1 := hmA.o.one
  have o2 := hmA.p.one
  have o3 := hmA.b.one
  have a1 := hc.a.one
  have w1 := hc.w.one
  have s1 := hmA.o.isSl
  have s2 := hmA.p.isSl
  have d2 := hmA.p.lenD
  have s3 := hmA.b.isSl
  have k5e : (c.kind == 5) = true := by rw [hk]; rfl
  obtain ⟨hp, hhp, EP, P0, C0, Z0, nP⟩ := made_boxes (H := H) (mC m vo vp vb) (cC c va vw) mz
  unfold mC at P0 hhp
  unfold cC at C0 hhp
  unfold mz at Z0 hhp
  have LP := ld_at (T := tabOf Try.prog NT0) P0
  have LC := ld_at (T := tabOf Try.prog NT0) C0
  have lP := at_lt P0
  have lC := at_lt C0
  have lZ := at_lt Z0
  have hne : ¬ H.n = H.n + 2 := by omega
  have hE : chMade m c = { m with pools := insP m.pools c.pool } := by unfold chMade; rw [if_pos hk]
  have hsp : m.pools.length < 4611686018427387904 := by have := hz.sp; omega
  have mp := hm.ext EP (Nat.le_refl _)
  have hbl : IsSl RBkt (fun k => (n0 ≤ k ∧ Apart vo k ∧ Apart vp k ∧ k ≠ p0) ∧ k < H.n) hp vb m.buckets := hm.b.lift fun b hb hlt => ⟨EP.2 _ hlt, hb, hlt⟩
  simp only [core, Nat.reduceAdd, Nat.reduceSub, Nat.reduceMul, Nat.reduceLT, Nat.reduceEqDiff, reduceCtorEq, Nat.reduceLeDiff, Int.reduceLE, Int.reduceLT, Int.reduceToNat, Try.ntmps72, mpV, chV, o1, o2, o3, a1, w1, ← hhp, LP, LC, lP, lC, k5e, s1, s2, s3]
  obtain ⟨n, hN⟩ : ∃ n, n = m.pools.length := ⟨_, rfl⟩
  rw [← hN] at d2 hsp
  -- the end: box and result written over a heap where the pools' row is new
  have fin : ∀ (h : AH) (rp : AV), hp.n ≤ h.n → (∀ b, b < hp.n → Apart vp b → h.at b = hp.at b) → OwnE RPool n0 h rp 94 (insP m.pools c.pool) → (∀ b, b < hp.n → Apart vp b → Apart rp b) →
      Ext n0 H ((h.put H.n (.cells [.lit (.int .i64 m.epoch), vo, rp, vb, .lit (.int .i64 m.leaf)] 31)).put (H.n + 2) (.cells [.lit (.int .i64 m.epoch), vo, rp, vb, .lit (.int .i64 m.leaf)] 31)) ∧
      ((h.put H.n (.cells [.lit (.int .i64 m.epoch), vo, rp, vb, .lit (.int .i64 m.leaf)] 31)).put (H.n + 2) (.cells [.lit (.int .i64 m.epoch), vo, rp, vb, .lit (.int .i64 m.leaf)] 31)).at p0 = H.at p0 ∧
      OwnMp n0 p0 ((h.put H.n (.cells [.lit (.int .i64 m.epoch), vo, rp, vb, .lit (.int .i64 m.leaf)] 31)).put (H.n + 2) (.cells [.lit (.int .i64 m.epoch), vo, rp, vb, .lit (.int .i64 m.leaf)] 31)) { m with pools := insP m.pools c.pool } vo rp vb := by
    intro h rp hhn hk ho hap
    refine ⟨(Ext.put _ (Ext.put _ ⟨by have := EP.1; omega, fun b hb => ?_⟩ hn0) (by omega)), ?_, ⟨?_, ?_, ?_, hm.ao, hap _ (by omega) hm.ap⟩⟩
    · rw [hk b (by have := EP.1; omega) (hm.p.apartLt hb)]
      exact EP.2 b (by omega)
    · rw [at_put_ne _ (by omega), at_put_ne _ (by omega), hk _ (by omega) hm.ap]
      exact EP.2 _ hp0
    · refine ((mp.o.keep fun b off n cap hv => hk b (mp.o.blt b off n cap hv) (mp.o.sep mp.p (by decide) b off n cap hv)).put_ap (hm.o.apart (by omega))).put_ap (hm.o.apart (by omega))
    · exact (ho.put_ap (hap _ (by omega) (hm.p.apart (by omega)))).put_ap (hap _ (by omega) (hm.p.apart (by omega)))
    · refine hbl.lift fun b hb hlt => ⟨?_, hb.1.1, hb.1.2.1, hap b (by omega) hb.1.2.2.1, hb.1.2.2.2⟩
      have := hb.2
      rw [at_put_ne _ (by omega), at_put_ne _ (by omega)]
      exact hk b (by omega) hb.1.2.2.1
  refine WB_ind (fun (i : Nat) t h => h = hp ∧ i ≤ n ∧ (∀ j, j < i → (m.pools.getD j pool0).id < c.pool.id) ∧ t.n = 138 ∧ t.get 2 = .ptr H.n 0 ∧ t.get 3 = .ptr (H.n + 1) 0 ∧ t.get 4 = .ptr (H.n + 2) 0 ∧ t.get 5 = .lit (.int .i64 i)) (fun i => n - i) ?_ 0 _ _ ?_
  · rintro i t h ⟨rfl, hin, hj, hn, g2, g3, g4, g5⟩ ih
    by_cases hlt : i < n
    · obtain ⟨x, hx⟩ : ∃ x, m.pools[i]? = some x := ⟨_, List.getElem?_eq_getElem (by omega)⟩
      obtain ⟨cc, hc1, hld, hld0⟩ := hmA.p.atE (T := tabOf Try.prog NT0) EP RPool_z hx
      obtain ⟨rfl, hokx⟩ := RPool_is.1 hc1
      have hltI : ((i : Int) < (n : Int)) = True := by simp only [eq_iff_iff, iff_true]; omega
      have hws := wrap_succ hlt (by omega)
      by_cases hxl : x.id < c.pool.id
      · simp only [core, Nat.reduceAdd, Nat.reduceSub, Nat.reduceMul, Nat.reduceLT, Nat.reduceEqDiff, reduceCtorEq, Nat.reduceLeDiff, Int.reduceLE, Int.reduceLT, Int.reduceToNat]
        rw [WB_regionD [0, 1, 2, 3, 4, 5, 6, 7, 8, 9, 10, 11, 12, 13, 14, 15, 16] 497317544944576001011160041067678386381011072683367138058344116058555441232145599692800 (by kernel_rfl)]
        repeat ((with_reducible refine WDM_cons ?_; simp only [dw1]; try simp only [dw2, Nat.reduceAdd, Nat.reduceMul, Nat.reduceShiftRight, Nat.reduceMod, Nat.reduceEqDiff]); simp only [core, Nat.reduceAdd, Nat.reduceSub, Nat.reduceMul, Nat.reduceLT, Nat.reduceEqDiff, reduceCtorEq, Nat.reduceLeDiff, Int.reduceLE, Int.reduceLT, Int.reduceToNat, cored, LP, LC, lP, lC, s2, d2, hn, g2, g3, g4, g5, hlt, hltI, hld, hld0, hxl])
        simp only [core, Nat.reduceAdd, Nat.reduceSub, Nat.reduceMul, Nat.reduceLT, Nat.reduceEqDiff, reduceCtorEq, Nat.reduceLeDiff, Int.reduceLE, Int.reduceLT, Int.reduceToNat, hws, hn, g2, g3, g4, g5]
        refine ih (i + 1) _ _ ⟨rfl, hlt, fun j hji => ?_, ?_⟩ (by omega)
        · by_cases hji2 : j = i
          · subst hji2
            rw [List.getD_eq_getElem?_getD, hx]
            exact hxl
          · exact hj j (by omega)
        · simp only [core, Nat.reduceAdd, Nat.reduceSub, Nat.reduceMul, Nat.reduceLT, Nat.reduceEqDiff, reduceCtorEq, Nat.reduceLeDiff, Int.reduceLE, Int.reduceLT, Int.reduceToNat, hn, g2, g3, g4, g5]
      · have hne0 : m.pools ≠ [] := fun hh => by rw [hh] at hx; simp at hx
        have row : ∃ q, vp = .sl q 0 m.pools.length (.un 4) ∧ n0 ≤ q ∧ q < H.n ∧ h.at q = some (.cells (m.pools.flatMap pC') 94) ∧ ∀ x ∈ m.pools, okP x := by
          rcases mp.p with ho | ⟨hh, _⟩
          · obtain ⟨q, hv, hq, hat, hok⟩ := ho.row flatP hne0
            exact ⟨q, hv, hq, hm.p.blt q _ _ _ hv, hat, hok⟩
          · exact absurd hh hne0
        obtain ⟨q, hv, hq, hqH, hat, hok⟩ := row
        have lq := at_lt hat
        have hq0 : ¬ q = H.n := by omega
        by_cases hxe : x.id = c.pool.id
        · have hxeb : (x.id == c.pool.id) = true := by simp [hxe]
          have hput := put_el (cf := pC') (z := 4) (y := c.pool) (fun _ => rfl) (show i < m.pools.length by omega)
          simp only [pC'] at hput
          have hv1 : slB vp = q := by rw [hv]; rfl
          have hv2 : slO vp = 0 := by rw [hv]; rfl
          have hat' : h.at (slB vp) = some (.cells (m.pools.flatMap pC') 94) := by rw [hv1]; exact hat
          have lq' := at_lt hat'
          have hput' : put (m.pools.flatMap pC') (slO vp + i * 4) [.lit (.int .i64 c.pool.id), .lit (.int .i64 c.pool.size), .lit (.int .i64 c.pool.min), .lit (.int .i64 c.pool.pgs)] = some ((m.pools.set i c.pool).flatMap pC') := by
            rw [hv2, Nat.zero_add]; exact hput
          obtain ⟨h2, hh2⟩ : ∃ h2, h2 = h.put q (.cells ((m.pools.set i c.pool).flatMap pC') 94) := ⟨_, rfl⟩
          have W2 : h2.at q = some (.cells ((m.pools.set i c.pool).flatMap pC') 94) := hh2 ▸ at_put_same _ lq
          have k2 : ∀ b, b ≠ q → h2.at b = h.at b := fun b hb => hh2 ▸ at_put_ne _ (Ne.symm hb)
          have n2 : h2.n = h.n := by rw [hh2, n_put]
          have P2 := (k2 _ (by omega)).trans P0
          have Z2 := (k2 _ (by omega)).trans Z0
          have LP2 := ld_at (T := tabOf Try.prog NT0) P2
          have lZ2 := at_lt Z2
          have hh2' : h.put (slB vp) (.cells ((m.pools.set i c.pool).flatMap pC') 94) = h2 := by rw [hv1]; exact hh2.symm
          simp only [core, Nat.reduceAdd, Nat.reduceSub, Nat.reduceMul, Nat.reduceLT, Nat.reduceEqDiff, reduceCtorEq, Nat.reduceLeDiff, Int.reduceLE, Int.reduceLT, Int.reduceToNat]
          rw [WB_regionD [0, 1, 2, 3, 4, 5, 6, 7, 8, 9, 10, 11, 12, 13, 14, 15, 16] 497317544944576001011160041067678386381011072683367138058344116058555441232145599692800 (by kernel_rfl)]
          repeat ((with_reducible refine WDM_cons ?_; simp only [dw1]; try simp only [dw2, Nat.reduceAdd, Nat.reduceMul, Nat.reduceShiftRight, Nat.reduceMod, Nat.reduceEqDiff]); simp only [core, Nat.reduceAdd, Nat.reduceSub, Nat.reduceMul, Nat.reduceLT, Nat.reduceEqDiff, reduceCtorEq, Nat.reduceLeDiff, Int.reduceLE, Int.reduceLT, Int.reduceToNat, cored, LP, LC, lP, lC, s2, d2, hn, g2, g3, g4, g5, hlt, hltI, hld, hld0, hxl])
          rw [WB_regionD [0, 1, 2, 3, 4, 5, 6, 7, 8, 9, 10, 11, 12, 13, 14, 15, 16] 497317544944576001011160041067678386381011072683367138058344116058555441232145599692800 (by kernel_rfl)]
          repeat ((with_reducible refine WDM_cons ?_; simp only [dw1]; try simp only [dw2, Nat.reduceAdd, Nat.reduceMul, Nat.reduceShiftRight, Nat.reduceMod, Nat.reduceEqDiff]); simp only [corem, WB_cond_s, put, ldL, WB_label, List.nil_append, List.drop_zero, List.take_zero, Nat.reduceAdd, Nat.reduceSub, Nat.reduceMul, Nat.reduceLT, Nat.reduceEqDiff, reduceCtorEq, Nat.reduceLeDiff, Int.reduceLE, Int.reduceLT, Int.reduceToNat, cored, -put, LP, LC, lP, lC, s2, d2, hn, g2, g3, g4, g5, hlt, hltI, hld, hld0, hxl, hxeb, hat', lq', hput', hh2', LP2, Z2, lZ2, o1, o2, o3])
          have hI : insP m.pools c.pool = m.pools.set i c.pool := insP_eq hx hj hxe
          have E2 : Ext n0 H h2 := ⟨by have := EP.1; omega, fun b hb => (k2 b (by omega)).trans (EP.2 b (by omega))⟩
          have hqp : p0 ≠ q := fun hh => hm.ap 0 _ _ (hh ▸ hv)
          refine ⟨E2.put _ (by omega), by rw [at_put_ne _ (by omega), k2 _ hqp]; exact EP.2 _ hp0, vo, vp, vb, by rw [hE], ?_⟩
          rw [hE, hI]
          have hsep := mp.o.sep mp.p (by decide)
          refine ⟨((mp.o.keep fun b off n cap hv' => k2 b (fun hh => hsep b off n cap hv' 0 _ _ (hh ▸ hv))).put_ap (hm.o.apart (by omega))), ?_, ?_, hm.ao, hm.ap⟩
          · refine OwnE.put_ap (.inl ?_) (hm.p.apart (by omega))
            rw [hv]
            exact OwnL.ofRow flatP (by simp) hq W2 fun y hy => by
              rcases List.mem_or_eq_of_mem_set hy with hy | rfl
              · exact hok y hy
              · exact hc.hp
          · refine hbl.lift fun b hb hlt => ⟨?_, hb.1⟩
            have := hb.2
            rw [at_put_ne _ (by omega)]
            exact k2 b fun hh => hb.1.2.2.1 0 _ _ (hh ▸ hv)
        · have hxeb : (x.id == c.pool.id) = false := by simp [hxe]
          simp only [core, Nat.reduceAdd, Nat.reduceSub, Nat.reduceMul, Nat.reduceLT, Nat.reduceEqDiff, reduceCtorEq, Nat.reduceLeDiff, Int.reduceLE, Int.reduceLT, Int.reduceToNat]
          rw [WB_regionD [0, 1, 2, 3, 4, 5, 6, 7, 8, 9, 10, 11, 12, 13, 14, 15, 16] 497317544944576001011160041067678386381011072683367138058344116058555441232145599692800 (by kernel_rfl)]
          repeat ((with_reducible refine WDM_cons ?_; simp only [dw1]; try simp only [dw2, Nat.reduceAdd, Nat.reduceMul, Nat.reduceShiftRight, Nat.reduceMod, Nat.reduceEqDiff]); simp only [core, Nat.reduceAdd, Nat.reduceSub, Nat.reduceMul, Nat.reduceLT, Nat.reduceEqDiff, reduceCtorEq, Nat.reduceLeDiff, Int.reduceLE, Int.reduceLT, Int.reduceToNat, cored, LP, LC, lP, lC, s2, d2, hn, g2, g3, g4, g5, hlt, hltI, hld, hld0, hxl])
          rw [WB_regionD [0, 1, 2, 3, 4, 5, 6, 7, 8, 9, 10, 11, 12, 13, 14, 15, 16] 497317544944576001011160041067678386381011072683367138058344116058555441232145599692800 (by kernel_rfl)]
          repeat ((with_reducible refine WDM_cons ?_; simp only [dw1]; try simp only [dw2, Nat.reduceAdd, Nat.reduceMul, Nat.reduceShiftRight, Nat.reduceMod, Nat.reduceEqDiff]); simp only [core, Nat.reduceAdd, Nat.reduceSub, Nat.reduceMul, Nat.reduceLT, Nat.reduceEqDiff, reduceCtorEq, Nat.reduceLeDiff, Int.reduceLE, Int.reduceLT, Int.reduceToNat, cored, LP, LC, lP, lC, s2, d2, hn, g2, g3, g4, g5, hlt, hltI, hld, hld0, hxl, hxeb])
          rw [hv]
          have hcut : cut (m.pools.flatMap pC') 0 (m.pools.length * 4) = some (m.pools.flatMap pC') := by
            unfold cut
            have := flatMap_len (cf := pC') (z := 4) (fun _ => rfl) m.pools
            rw [if_pos (by omega), List.drop_zero, ← this, List.take_length]
          have hIg : insP m.pools c.pool = m.pools.take i ++ c.pool :: m.pools.drop i := insP_gt hx hj (by omega)
          have hrow : (m.pools.flatMap pC').take (i * 4) ++ pC' c.pool ++ (m.pools.flatMap pC').drop (i * 4) = (insP m.pools c.pool).flatMap pC' := by
            have h3 := flatMap_len (cf := pC') (z := 4) (fun _ => rfl) (m.pools.take i)
            rw [List.length_take, Nat.min_eq_left (by omega)] at h3
            have h4 : m.pools.flatMap pC' = (m.pools.take i).flatMap pC' ++ (m.pools.drop i).flatMap pC' := by rw [← List.flatMap_append, List.take_append_drop]
            rw [hIg, List.flatMap_append, List.flatMap_cons, h4, List.take_left' h3, List.drop_left' h3, List.append_assoc]
          have hlenI : (insP m.pools c.pool).length = m.pools.length + 1 := by rw [hIg]; simp; omega
          refine ins_c (l2 := pC' c.pool) (new := pC' c.pool) ((at_push_lt _ lq).trans hat) (at_push_n _ _) hcut rfl (by have := hz.sp; omega) (by omega) rfl ?_ (by omega) ?_
          · rw [List.all_eq_true]
            intro v hv'
            obtain ⟨y, _, hy⟩ := List.mem_flatMap.1 hv'
            simp only [pC', List.mem_cons, List.not_mem_nil, or_false] at hy
            rcases hy with rfl | rfl | rfl | rfl <;> rfl
          rw [hrow]
          obtain ⟨h2, hh2⟩ : ∃ h2, h2 = ((h.push (.cells (pC' c.pool) 94)).put q .gone).push (.cells ((insP m.pools c.pool).flatMap pC') 94) := ⟨_, rfl⟩
          have n2 : h2.n = h.n + 2 := by rw [hh2, n_push, n_put, n_push]
          have W2 : h2.at (h.n + 1) = some (.cells ((insP m.pools c.pool).flatMap pC') 94) := by
            have := at_push_n ((h.push (.cells (pC' c.pool) 94)).put q .gone) (.cells ((insP m.pools c.pool).flatMap pC') 94)
            rw [n_put, n_push] at this
            rw [hh2]
            exact this
          have k2 : ∀ b, b < h.n → b ≠ q → h2.at b = h.at b := fun b hb hbq => by
            rw [hh2, at_push_lt _ (by rw [n_put, n_push]; omega), at_put_ne _ (Ne.symm hbq), at_push_lt _ hb]
          have hgo : (h.push (.cells (pC' c.pool) 94)).n = h.n + 1 := n_push _ _
          have hpc : ((h.push (.cells [.lit (.int .i64 c.pool.id), .lit (.int .i64 c.pool.size), .lit (.int .i64 c.pool.min), .lit (.int .i64 c.pool.pgs)] 94)).put q .gone).push (.cells ((insP m.pools c.pool).flatMap pC') 94) = h2 := hh2.symm
          have hone : (AV.sl (h.n + 1) 0 (m.pools.length + 1) (.un 4)).one = true := rfl
          have P2 := (k2 _ lP (by omega)).trans P0
          have Z2 := (k2 _ lZ (by omega)).trans Z0
          have LP2 := ld_at (T := tabOf Try.prog NT0) P2
          have lZ2 := at_lt Z2
          have lP2 := at_lt P2
          simp only [core, Nat.reduceAdd, Nat.reduceSub, Nat.reduceMul, Nat.reduceLT, Nat.reduceEqDiff, reduceCtorEq, Nat.reduceLeDiff, Int.reduceLE, Int.reduceLT, Int.reduceToNat, hpc, P2, LP2, lP2, Z2, lZ2, o1, o3, hne, hn, g2, g3, g4, g5]
          obtain ⟨f1, f3, f2⟩ := fin h2 (.sl (h.n + 1) 0 (m.pools.length + 1) (.un 4)) (by omega) (fun b hb hab => k2 b hb (fun hh => hab 0 _ _ (hh ▸ hv))) (.inl (OwnL.ofRow flatP hlenI.symm (by omega) W2 (by
            rw [hIg]
            intro y hy
            rcases List.mem_append.1 hy with hy | hy
            · exact hok y (List.mem_of_mem_take hy)
            · rcases List.mem_cons.1 hy with rfl | hy
              · exact hc.hp
              · exact hok y (List.mem_of_mem_drop hy)))) (fun b hb _ off n cap e => by cases e; omega)
          exact ⟨f1, f3, vo, _, vb, by rw [hE], by rw [hE]; exact f2⟩
    · have hltI : ((i : Int) < (n : Int)) = False := by simp only [eq_iff_iff, iff_false]; omega
      simp only [core, Nat.reduceAdd, Nat.reduceSub, Nat.reduceMul, Nat.reduceLT, Nat.reduceEqDiff, reduceCtorEq, Nat.reduceLeDiff, Int.reduceLE, Int.reduceLT, Int.reduceToNat]
      rw [WB_regionD [0, 1, 2, 3, 4, 5, 6, 7, 8, 9, 10, 11, 12, 13, 14, 15, 16] 497317544944576001011160041067678386381011072683367138058344116058555441232145599692800 (by kernel_rfl)]
      repeat ((with_reducible refine WDM_cons ?_; simp only [dw1]; try simp only [dw2, Nat.reduceAdd, Nat.reduceMul, Nat.reduceShiftRight, Nat.reduceMod, Nat.reduceEqDiff]); simp only [core, Nat.reduceAdd, Nat.reduceSub, Nat.reduceMul, Nat.reduceLT, Nat.reduceEqDiff, reduceCtorEq, Nat.reduceLeDiff, Int.reduceLE, Int.reduceLT, Int.reduceToNat, cored, LP, LC, lP, lC, s2, d2, hn, g2, g3, g4, g5, hlt, hltI])
      rw [WB_regionD [0, 1, 2, 3, 4, 5, 6, 7, 8, 9, 10, 11, 12, 13, 14, 15, 16] 497317544944576001011160041067678386381011072683367138058344116058555441232145599692800 (by kernel_rfl)]
      repeat ((with_reducible refine WDM_cons ?_; simp only [dw1]; try simp only [dw2, Nat.reduceAdd, Nat.reduceMul, Nat.reduceShiftRight, Nat.reduceMod, Nat.reduceEqDiff]); simp only [core, Nat.reduceAdd, Nat.reduceSub, Nat.reduceMul, Nat.reduceLT, Nat.reduceEqDiff, reduceCtorEq, Nat.reduceLeDiff, Int.reduceLE, Int.reduceLT, Int.reduceToNat, cored, LP, LC, lP, lC, s2, d2, hn, g2, g3, g4, g5, hlt, hltI])
      have hid : i = lenD vp := by omega
      obtain ⟨h1, hh1⟩ : ∃ h1, h1 = h.push (.cells [.lit (.int .i64 c.pool.id), .lit (.int .i64 c.pool.size), .lit (.int .i64 c.pool.min), .lit (.int .i64 c.pool.pgs)] 94) := ⟨_, rfl⟩
      have e1 : Ext h.n h h1 := hh1 ▸ (Ext.refl _ _).push _ (Nat.le_refl _)
      have A1 : h1.at h.n = some (.cells (pC' c.pool) 94) := hh1 ▸ at_push_n _ _
      have n1 : h1.n = h.n + 1 := by rw [hh1, n_push]
      rw [← hh1, hid]
      clear hh1
      have p1 := mp.p.ext e1 (Nat.le_refl _)
      have hg2 : getR h1 h.n = some (pC' c.pool) := by unfold getR; rw [A1]
      have hbig : (lenD vp + 1) * 32 ≤ 140737488355328 := by have := hz.sp; omega
      have hIe : insP m.pools c.pool = m.pools ++ [c.pool] := insP_end fun j hjl => hj j (by omega)
      obtain ⟨s', h2, ha, hs', f2⟩ := p1.snoc (T := tabOf Try.prog NT0) (t := 28) (y := c.pool) (cap := .kn 1) flatP (by kernel_rfl) (by kernel_rfl) (zv := .agg [.lit (.int .i64 0), .lit (.int .i64 0), .lit (.int .i64 0), .lit (.int .i64 0)]) (by kernel_rfl) (by' := 32) (by kernel_rfl) rfl (by decide) (by decide) A1 (RPool_is.2 ⟨rfl, hc.hp⟩) (by omega) (by rw [← d2.trans hN]; exact hbig) (by omega)
      rw [insA_eq s2 hbig hg2 rfl rfl] at ha
      refine insA_c s2 mp.p.capOk hg2 rfl hbig rfl ha ?_
      have fr : Fr h vp h2 s' := (Fr.ext e1).trans f2
      have ap0 := hm.p.apart (b := H.n) (by omega)
      have ap2 := hm.p.apart (b := H.n + 2) (by omega)
      have P2 := (fr.2 _ lP ap0).1.trans P0
      have Z2 := (fr.2 _ lZ ap2).1.trans Z0
      have LP2 := ld_at (T := tabOf Try.prog NT0) P2
      have lZ2 := at_lt Z2
      have lP2 := at_lt P2
      have q1 := (hs'.toSl (F := fun _ => True) (fun _ _ => trivial)).one
      simp only [core, Nat.reduceAdd, Nat.reduceSub, Nat.reduceMul, Nat.reduceLT, Nat.reduceEqDiff, reduceCtorEq, Nat.reduceLeDiff, Int.reduceLE, Int.reduceLT, Int.reduceToNat, P2, LP2, lP2, Z2, lZ2, o1, o3, q1, hne, hn, g2, g3, g4, g5]
      have f0 := fr.1
      obtain ⟨f1, f3, f2⟩ := fin h2 s' (by omega) (fun b hb hab => (fr.2 b hb hab).1) (by rw [hIe]; exact hs') (fun b hb hab => (fr.2 b hb hab).2)
      exact ⟨f1, f3, vo, _, vb, by rw [hE], by rw [hE]; exact f2⟩
  · refine ⟨rfl, Nat.zero_le _, fun j hj => by omega, ?_⟩
    simp only [core, Nat.reduceAdd, Nat.reduceSub, Nat.reduceMul, Nat.reduceLT, Nat.reduceEqDiff, reduceCtorEq, Nat.reduceLeDiff, Int.reduceLE, Int.reduceLT, Int.reduceToNat]
    simp
end Go.Proofs.Ytkgbeihcepociaa.Ex
end
