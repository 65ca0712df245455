/- Part 6 of the proof: Op14, Op15, Op16, Op17, Eqo, Oq1, Oq2, Or1, Df1, Df2, Df3, Opc, Jn, Ivo, Plh. -/
import Derived.Test.YtmfhagahkkhbeaaM5
open Nat renaming reduceAdd → zrA, reduceSub → zrS, reduceMul → zrM, reduceLT → zrL, reduceEqDiff → zrE, reduceLeDiff → zrD, reduceShiftRight → zrR, reduceMod → zrO
open Int renaming reduceLE → ziE, reduceLT → ziL, reduceToNat → ziN
section

set_option linter.unusedSimpArgs false
set_option linter.unusedVariables false
set_option maxRecDepth 10000
set_option maxHeartbeats 4000000
namespace Go.Proofs.Ytmfhagahkkhbeaa.Ex
open Go
/-- What a change answers: a map and an error. -/
def R10 (F : Nat → Prop) (H : AH) (m : MapD) (c : ChD) (r : AV) (h' : AH) : Prop :=
  Ext H.n H h' ∧ ∃ n ro rp rb, r = .tup [mpV n ro rp rb, .lit (.int .i64 (chMay m c))] ∧ MpAt (fun k => F k ∨ H.n ≤ k) h' n ro rp rb ∧ (chMay m c = 0 → n = chMade m c)
theorem R10.no {F : Nat → Prop} {H h' : AH} {m : MapD} {c : ChD} {vo vp vb : AV} {e : Int} (hm : MpAt F H m vo vp vb) (he : Ext H.n H h') (hc : chMay m c = e) (h0 : e ≠ 0) : R10 F H m c (.tup [mpV m vo vp vb, .lit (.int .i64 e)]) h' := by
  have h1 := hm.ext he (Nat.le_refl _)
  exact ⟨he, m, vo, vp, vb, by rw [hc], ⟨h1.o.lift fun _ h _ => ⟨rfl, .inl h⟩, h1.p.lift fun _ h _ => ⟨rfl, .inl h⟩, h1.b.lift fun _ h _ => ⟨rfl, .inl h⟩⟩, fun hh => absurd (hc.symm.trans hh) h0⟩
theorem R10.yes {F : Nat → Prop} {H h' : AH} {m : MapD} {c : ChD} {vo vp vb : AV} (hm : MpAt (fun k => H.n ≤ k) h' (chMade m c) vo vp vb) (he : Ext H.n H h') (hc : chMay m c = 0) : R10 F H m c (.tup [mpV (chMade m c) vo vp vb, .lit (.int .i64 0)]) h' :=
  ⟨he, _, vo, vp, vb, by rw [hc], ⟨hm.o.lift fun _ h _ => ⟨rfl, .inr h⟩, hm.p.lift fun _ h _ => ⟨rfl, .inr h⟩, hm.b.lift fun _ h _ => ⟨rfl, .inr h⟩⟩, fun _ => rfl⟩
theorem MpAt.putLt {n0 p : Nat} {h : AH} {m : MapD} {vo vp vb : AV} {x : AB} (hm : MpAt (fun k => n0 ≤ k) h m vo vp vb) (hp : p < n0) : MpAt (fun k => n0 ≤ k) (h.put p x) m vo vp vb :=
  ⟨hm.o.lift fun b hb _ => ⟨at_put_ne _ (by omega), hb⟩, hm.p.lift fun b hb _ => ⟨at_put_ne _ (by omega), hb⟩, hm.b.lift fun b hb _ => ⟨at_put_ne _ (by omega), hb⟩⟩
theorem MpAt.monoN {n0 n1 : Nat} {h : AH} {m : MapD} {vo vp vb : AV} (hm : MpAt (fun k => n0 ≤ k) h m vo vp vb) (hn : n1 ≤ n0) : MpAt (fun k => n1 ≤ k) h m vo vp vb :=
  ⟨hm.o.lift fun b hb _ => ⟨rfl, by omega⟩, hm.p.lift fun b hb _ => ⟨rfl, by omega⟩, hm.b.lift fun b hb _ => ⟨rfl, by omega⟩⟩
theorem others5_x {F F2 : Nat → Prop} {H : AH} {m : MapD} {vo vp vb va vw : AV} (c : ChD) (hm : MpAt F H m vo vp vb) (hok : OkMp m) (hz : MpSz m) (hc : ChIn F2 H c va vw) (hk : c.kind = 5) :
    WC Try.prog (tabOf Try.prog NT0) S0 53 [mpV m vo vp vb, chV c va vw] H (R10 F H m c) := by
  refine WC_fn Try.func53 rfl rfl ?_
  have o1 := hm.o.one
  have o2 := hm.p.one
  have o3 := hm.b.one
  have a1 := hc.a.one
  have w1 := hc.w.one
  have a2 := hc.a.isSl
  have a3 := hc.a.lenD
  obtain ⟨hp, hhp, EP, P0, C0, Z0, nP⟩ := made_boxes (H := H) (mC m vo vp vb) (cC c va vw) mz
  unfold mC at P0 hhp
  unfold cC at C0 hhp
  unfold mz at Z0 hhp
  have LP := ld_at (T := tabOf Try.prog NT0) P0
  have LC := ld_at (T := tabOf Try.prog NT0) C0
  have lP := at_lt P0
  have lC := at_lt C0
  have lZ := at_lt Z0
  have hne : ¬ H.n = H.n + 2 := by omega
  simp only [core, zrA, zrS, zrM, zrL, zrE, reduceCtorEq, zrD, ziE, ziL, ziN, Try.ntmps53, mpV, chV, o1, o2, o3, a1, w1]
  rw [← hhp]
  clear hhp
  have k5e : (c.kind == 5) = true := by rw [hk]; rfl
  obtain ⟨hq, hhq⟩ : ∃ hq, hq = hp.push (.cells (pC' c.pool) 52) := ⟨_, rfl⟩
  have eQ : Ext hp.n hp hq := hhq ▸ (Ext.refl _ _).push _ (Nat.le_refl _)
  have A0 : hq.at hp.n = some (.cells (pC' c.pool) 52) := hhq ▸ at_push_n _ _
  have nQ : hq.n = hp.n + 1 := by rw [hhq, n_push]
  unfold pC' at A0 hhq
  rw [show hp.n = H.n + 1 + 1 + 1 by omega] at A0
  have LA := ld_at (T := tabOf Try.prog NT0) A0
  have lA := at_lt A0
  have P1 := (eQ.2 _ lP).trans P0
  have C1 := (eQ.2 _ lC).trans C0
  have Z1 := (eQ.2 _ lZ).trans Z0
  have LP1 := ld_at (T := tabOf Try.prog NT0) P1
  have LC1 := ld_at (T := tabOf Try.prog NT0) C1
  have lP1 := at_lt P1
  have lC1 := at_lt C1
  have lZ1 := at_lt Z1
  have EQ := EP.step eQ
  have hM : chMay m c = mayPoolF m c.pool := by unfold chMay; rw [if_neg (by unfold isOs; omega), if_pos hk]
  have hE : chMade m c = { m with pools := insP m.pools c.pool } := by unfold chMade; rw [if_pos hk]
  by_cases c1 : c.pool.id < 1
  · have hB : chMay m c = 22 := by rw [hM]; unfold mayPoolF; rw [if_pos (by unfold poolBad; omega)]
    simp only [core, zrA, zrS, zrM, zrL, zrE, reduceCtorEq, zrD, ziE, ziL, ziN, o1, o2, o3, a1, w1, LP, LC, lP, lC, ← hhq, LA, lA, LP1, LC1, lP1, lC1, Z1, lZ1, k5e, c1]
    exact R10.no hm (EQ.put _ (by omega)) hB (by decide)
  by_cases c2 : 4 < c.pool.id
  · have hB : chMay m c = 22 := by rw [hM]; unfold mayPoolF; rw [if_pos (by unfold poolBad; omega)]
    simp only [core, zrA, zrS, zrM, zrL, zrE, reduceCtorEq, zrD, ziE, ziL, ziN, o1, o2, o3, a1, w1, LP, LC, lP, lC, ← hhq, LA, lA, LP1, LC1, lP1, lC1, Z1, lZ1, k5e, c1, c2]
    exact R10.no hm (EQ.put _ (by omega)) hB (by decide)
  by_cases c3 : c.pool.size < 1
  · have hB : chMay m c = 22 := by rw [hM]; unfold mayPoolF; rw [if_pos (by unfold poolBad; omega)]
    simp only [core, zrA, zrS, zrM, zrL, zrE, reduceCtorEq, zrD, ziE, ziL, ziN, o1, o2, o3, a1, w1, LP, LC, lP, lC, ← hhq, LA, lA, LP1, LC1, lP1, lC1, Z1, lZ1, k5e, c1, c2, c3]
    exact R10.no hm (EQ.put _ (by omega)) hB (by decide)
  by_cases c4 : 8 < c.pool.size
  · have hB : chMay m c = 22 := by rw [hM]; unfold mayPoolF; rw [if_pos (by unfold poolBad; omega)]
    simp only [core, zrA, zrS, zrM, zrL, zrE, reduceCtorEq, zrD, ziE, ziL, ziN, o1, o2, o3, a1, w1, LP, LC, lP, lC, ← hhq, LA, lA, LP1, LC1, lP1, lC1, Z1, lZ1, k5e, c1, c2, c3, c4]
    exact R10.no hm (EQ.put _ (by omega)) hB (by decide)
  by_cases c5 : c.pool.min < 1
  · have hB : chMay m c = 22 := by rw [hM]; unfold mayPoolF; rw [if_pos (by unfold poolBad; omega)]
    simp only [core, zrA, zrS, zrM, zrL, zrE, reduceCtorEq, zrD, ziE, ziL, ziN, o1, o2, o3, a1, w1, LP, LC, lP, lC, ← hhq, LA, lA, LP1, LC1, lP1, lC1, Z1, lZ1, k5e, c1, c2, c3, c4, c5]
    exact R10.no hm (EQ.put _ (by omega)) hB (by decide)
  by_cases c6 : c.pool.size < c.pool.min
  · have hB : chMay m c = 22 := by rw [hM]; unfold mayPoolF; rw [if_pos (by unfold poolBad; omega)]
    simp only [core, zrA, zrS, zrM, zrL, zrE, reduceCtorEq, zrD, ziE, ziL, ziN, o1, o2, o3, a1, w1, LP, LC, lP, lC, ← hhq, LA, lA, LP1, LC1, lP1, lC1, Z1, lZ1, k5e, c1, c2, c3, c4, c5, c6]
    exact R10.no hm (EQ.put _ (by omega)) hB (by decide)
  by_cases c7 : c.pool.pgs < 1
  · have hB : chMay m c = 22 := by rw [hM]; unfold mayPoolF; rw [if_pos (by unfold poolBad; omega)]
    simp only [core, zrA, zrS, zrM, zrL, zrE, reduceCtorEq, zrD, ziE, ziL, ziN, o1, o2, o3, a1, w1, LP, LC, lP, lC, ← hhq, LA, lA, LP1, LC1, lP1, lC1, Z1, lZ1, k5e, c1, c2, c3, c4, c5, c6, c7]
    exact R10.no hm (EQ.put _ (by omega)) hB (by decide)
  by_cases c8 : 8 < c.pool.pgs
  · have hB : chMay m c = 22 := by rw [hM]; unfold mayPoolF; rw [if_pos (by unfold poolBad; omega)]
    simp only [core, zrA, zrS, zrM, zrL, zrE, reduceCtorEq, zrD, ziE, ziL, ziN, o1, o2, o3, a1, w1, LP, LC, lP, lC, ← hhq, LA, lA, LP1, LC1, lP1, lC1, Z1, lZ1, k5e, c1, c2, c3, c4, c5, c6, c7, c8]
    exact R10.no hm (EQ.put _ (by omega)) hB (by decide)
  have hB : chMay m c = match poolF m c.pool.id with
    | some q => if q.pgs = c.pool.pgs then 0 else 126
    | none => 0 := by rw [hM]; unfold mayPoolF; rw [if_neg (by unfold poolBad; omega)] <;> rfl
  simp only [core, zrA, zrS, zrM, zrL, zrE, reduceCtorEq, zrD, ziE, ziL, ziN, o1, o2, o3, a1, w1, LP, LC, lP, lC, ← hhq, LA, lA, LP1, LC1, lP1, lC1, Z1, lZ1, k5e, c1, c2, c3, c4, c5, c6, c7, c8]
  refine (pool10_x c.pool.id (hm.ext EQ (Nat.le_refl _)) (Sm_le (Nat.le_succ _) hz.sp)).mono ?_
  rintro _ h2 ⟨e2, rfl⟩
  have E2 := EQ.step e2
  have f2 := e2.1
  obtain ⟨h3, hh3⟩ : ∃ h3, h3 = h2.push (.cells (pC' (poolG m c.pool.id)) 52) := ⟨_, rfl⟩
  have e3 : Ext h2.n h2 h3 := hh3 ▸ (Ext.refl _ _).push _ (Nat.le_refl _)
  have D3 : h3.at h2.n = some (.cells (pC' (poolG m c.pool.id)) 52) := hh3 ▸ at_push_n _ _
  unfold pC' at D3 hh3
  have n3 : h3.n = h2.n + 1 := by rw [hh3, n_push]
  have e23 := e2.trans (e3.mono f2)
  have A3 := (e23.2 _ lA).trans A0
  have P3 := (e23.2 _ lP1).trans P1
  have C3 := (e23.2 _ lC1).trans C1
  have Z3 := (e23.2 _ lZ1).trans Z1
  have LA3 := ld_at (T := tabOf Try.prog NT0) A3
  have LP3 := ld_at (T := tabOf Try.prog NT0) P3
  have LC3 := ld_at (T := tabOf Try.prog NT0) C3
  have LD3 := ld_at (T := tabOf Try.prog NT0) D3
  have lA3 := at_lt A3
  have lP3 := at_lt P3
  have lC3 := at_lt C3
  have lZ3 := at_lt Z3
  have lD3 := at_lt D3
  have E3 := E2.step e3
  have fin : WC Try.prog (tabOf Try.prog NT0) S0 62 [mpV m vo vp vb, poolV c.pool] h3 fun r h' => Ext h3.n h3 h' ∧ ∃ ro rp rb, r = mpV { m with pools := insP m.pools c.pool } ro rp rb ∧ MpAt (fun b => h3.n ≤ b) h' { m with pools := insP m.pools c.pool } ro rp rb := pooled10_x c.pool (hm.ext E3 (Nat.le_refl _)) hok hz.sp hc.hp
  cases hf : poolF m c.pool.id with
  | none =>
    rw [hf] at hB
    simp only [core, zrA, zrS, zrM, zrL, zrE, reduceCtorEq, zrD, ziE, ziL, ziN, o1, o2, o3, a1, w1, poolV, ← hh3, LA3, LP3, LC3, LD3, lA3, lP3, lC3, lZ3, lD3, Z3, hf, Option.isSome_none]
    refine fin.mono ?_
    rintro _ h4 ⟨e4, ro, rp, rb, rfl, m4⟩
    have Z4 := (e4.2 _ lZ3).trans Z3
    have lZ4 := at_lt Z4
    have f4 := e4.1
    have q1 := m4.o.one
    have q2 := m4.p.one
    have q3 := m4.b.one
    simp only [core, zrA, zrS, zrM, zrL, zrE, reduceCtorEq, zrD, ziE, ziL, ziN, mpV, q1, q2, q3, Z4, lZ4]
    have key := R10.yes (F := F) (H := H) (m := m) (c := c) (vo := ro) (vp := rp) (vb := rb) (h' := h4.put (H.n + 2) (.cells [.lit (.int .i64 m.epoch), ro, rp, rb, .lit (.int .i64 m.leaf)] 26)) (by rw [hE]; exact (m4.putLt (by omega)).monoN (by omega)) ((E3.step e4).put _ (by omega)) hB
    rw [hE] at key
    exact key
  | some q =>
    rw [hf] at hB
    have hG : poolG m c.pool.id = q := by unfold poolG; rw [hf]; rfl
    by_cases cq : q.pgs = c.pool.pgs
    · have cqn : ((poolG m c.pool.id).pgs != c.pool.pgs) = false := by rw [hG]; simp [cq]
      have hB : chMay m c = 0 := by rw [hB]; exact if_pos cq
      simp only [core, zrA, zrS, zrM, zrL, zrE, reduceCtorEq, zrD, ziE, ziL, ziN, o1, o2, o3, a1, w1, poolV, ← hh3, LA3, LP3, LC3, LD3, lA3, lP3, lC3, lZ3, lD3, Z3, hf, cqn, Option.isSome_some]
      refine fin.mono ?_
      rintro _ h4 ⟨e4, ro, rp, rb, rfl, m4⟩
      have Z4 := (e4.2 _ lZ3).trans Z3
      have lZ4 := at_lt Z4
      have f4 := e4.1
      have q1 := m4.o.one
      have q2 := m4.p.one
      have q3 := m4.b.one
      simp only [core, zrA, zrS, zrM, zrL, zrE, reduceCtorEq, zrD, ziE, ziL, ziN, mpV, q1, q2, q3, Z4, lZ4]
      have key := R10.yes (F := F) (H := H) (m := m) (c := c) (vo := ro) (vp := rp) (vb := rb) (h' := h4.put (H.n + 2) (.cells [.lit (.int .i64 m.epoch), ro, rp, rb, .lit (.int .i64 m.leaf)] 26)) (by rw [hE]; exact (m4.putLt (by omega)).monoN (by omega)) ((E3.step e4).put _ (by omega)) hB
      rw [hE] at key
      exact key
    · have cqn : ((poolG m c.pool.id).pgs != c.pool.pgs) = true := by rw [hG]; simp [cq]
      have hB : chMay m c = 126 := by rw [hB]; exact if_neg cq
      simp only [core, zrA, zrS, zrM, zrL, zrE, reduceCtorEq, zrD, ziE, ziL, ziN, o1, o2, o3, a1, w1, poolV, ← hh3, LA3, LP3, LC3, LD3, lA3, lP3, lC3, lZ3, lD3, Z3, hf, cqn, Option.isSome_some]
      exact R10.no hm (E3.put _ (by omega)) hB (by decide)
theorem others7_x {F F2 : Nat → Prop} {H : AH} {m : MapD} {vo vp vb va vw : AV} (c : ChD) (hm : MpAt F H m vo vp vb) (hok : OkMp m) (hz : MpSz m) (hc : ChIn F2 H c va vw) (hk : c.kind = 7) :
    WC Try.prog (tabOf Try.prog NT0) S0 53 [mpV m vo vp vb, chV c va vw] H (R10 F H m c) := by
  refine WC_fn Try.func53 rfl rfl ?_
  have o1 := hm.o.one
  have o2 := hm.p.one
  have o3 := hm.b.one
  have a1 := hc.a.one
  have w1 := hc.w.one
  have a2 := hc.a.isSl
  have a3 := hc.a.lenD
  obtain ⟨hp, hhp, EP, P0, C0, Z0, nP⟩ := made_boxes (H := H) (mC m vo vp vb) (cC c va vw) mz
  unfold mC at P0 hhp
  unfold cC at C0 hhp
  unfold mz at Z0 hhp
  have LP := ld_at (T := tabOf Try.prog NT0) P0
  have LC := ld_at (T := tabOf Try.prog NT0) C0
  have lP := at_lt P0
  have lC := at_lt C0
  have lZ := at_lt Z0
  have hne : ¬ H.n = H.n + 2 := by omega
  simp only [core, zrA, zrS, zrM, zrL, zrE, reduceCtorEq, zrD, ziE, ziL, ziN, Try.ntmps53, mpV, chV, o1, o2, o3, a1, w1]
  rw [← hhp]
  clear hhp
  have k5e : (c.kind == 5) = false := by rw [hk]; rfl
  have k6e : (c.kind == 6) = false := by rw [hk]; rfl
  have hM : chMay m c = if c.value < 0 ∨ 3 < c.value then 22 else 0 := by unfold chMay; rw [if_neg (by unfold isOs; omega), if_neg (by omega), if_neg (by omega), if_pos hk]
  have hE : chMade m c = { m with leaf := c.value } := by unfold chMade; rw [if_neg (by omega), if_neg (by omega), if_pos hk]
  by_cases c1 : c.value < 0
  · have hB : chMay m c = 22 := by rw [hM]; exact if_pos (.inl c1)
    simp only [core, zrA, zrS, zrM, zrL, zrE, reduceCtorEq, zrD, ziE, ziL, ziN, o1, o2, o3, a1, w1, a2, a3, LP, LC, P0, Z0, lP, lC, lZ, hne, k5e, k6e, c1]
    exact R10.no hm (EP.put _ (by omega)) hB (by decide)
  by_cases c2 : 3 < c.value
  · have hB : chMay m c = 22 := by rw [hM]; exact if_pos (.inr c2)
    simp only [core, zrA, zrS, zrM, zrL, zrE, reduceCtorEq, zrD, ziE, ziL, ziN, o1, o2, o3, a1, w1, a2, a3, LP, LC, P0, Z0, lP, lC, lZ, hne, k5e, k6e, c1, c2]
    exact R10.no hm (EP.put _ (by omega)) hB (by decide)
  have hB : chMay m c = 0 := by rw [hM]; exact if_neg (by omega)
  simp only [core, zrA, zrS, zrM, zrL, zrE, reduceCtorEq, zrD, ziE, ziL, ziN, o1, o2, o3, a1, w1, a2, a3, LP, LC, P0, Z0, lP, lC, lZ, hne, k5e, k6e, c1, c2]
  refine (copy10_x (hm.ext EP (Nat.le_refl _)) hok).mono ?_
  rintro _ h3 ⟨e3, ro, rp, rb, rfl, hown⟩
  have own3 := hown 0 (by omega)
  have m3 := own3.at (F := fun k => hp.n ≤ k) (fun _ h => h)
  have q1 := m3.o.one
  have q2 := m3.p.one
  have q3 := m3.b.one
  have P3 := (e3.2 _ lP).trans P0
  have C3 := (e3.2 _ lC).trans C0
  have Z3 := (e3.2 _ lZ).trans Z0
  have lP3 := at_lt P3
  have lC3 := at_lt C3
  have lZ3 := at_lt Z3
  have LC3 := ld_at (T := tabOf Try.prog NT0) C3
  have hn1 : ¬ H.n = H.n + 1 := by omega
  have E3 := EP.step e3
  have e12 : H.n + 1 = H.n + 1 := rfl
  simp only [core, zrA, zrS, zrM, zrL, zrE, reduceCtorEq, zrD, ziE, ziL, ziN, mpV, q1, q2, q3, P3, C3, Z3, LC3, lP3, lC3, lZ3, hne, hn1]
  have mE : MpAt (fun k => hp.n ≤ k) h3 (chMade m c) ro rp rb := by rw [hE]; exact ⟨m3.o, m3.p, m3.b⟩
  have key := R10.yes (F := F) (H := H) (m := m) (c := c) (((mE.putLt (p := H.n) (x := .cells [.lit (.int .i64 m.epoch), ro, rp, rb, .lit (.int .i64 m.leaf)] 26) (by omega)).putLt (p := H.n) (x := .cells [.lit (.int .i64 m.epoch), ro, rp, rb, .lit (.int .i64 c.value)] 26) (by omega)).putLt (p := H.n + 2) (x := .cells [.lit (.int .i64 m.epoch), ro, rp, rb, .lit (.int .i64 c.value)] 26) (by omega) |>.monoN (by omega)) (((E3.put _ (Nat.le_refl _)).put _ (Nat.le_refl _)).put _ (by omega)) hB
  rw [hE] at key
  exact key
theorem others6_x {F F2 : Nat → Prop} {H : AH} {m : MapD} {vo vp vb va vw : AV} (c : ChD) (hm : MpAt F H m vo vp vb) (hok : OkMp m) (hz : MpSz m) (hc : ChIn F2 H c va vw) (hk : c.kind = 6) :
    WC Try.prog (tabOf Try.prog NT0) S0 53 [mpV m vo vp vb, chV c va vw] H (R10 F H m c) := by
  refine WC_fn Try.func53 rfl rfl ?_
  have o1 := hm.o.one
  have o2 := hm.p.one
  have o3 := hm.b.one
  have a1 := hc.a.one
  have w1 := hc.w.one
  have a2 := hc.a.isSl
  have a3 := hc.a.lenD
  obtain ⟨hp, hhp, EP, P0, C0, Z0, nP⟩ := made_boxes (H := H) (mC m vo vp vb) (cC c va vw) mz
  unfold mC at P0 hhp
  unfold cC at C0 hhp
  unfold mz at Z0 hhp
  have LP := ld_at (T := tabOf Try.prog NT0) P0
  have LC := ld_at (T := tabOf Try.prog NT0) C0
  have lP := at_lt P0
  have lC := at_lt C0
  have lZ := at_lt Z0
  have hne : ¬ H.n = H.n + 2 := by omega
  simp only [core, zrA, zrS, zrM, zrL, zrE, reduceCtorEq, zrD, ziE, ziL, ziN, Try.ntmps53, mpV, chV, o1, o2, o3, a1, w1]
  rw [← hhp]
  clear hhp
  have k5e : (c.kind == 5) = false := by rw [hk]; rfl
  have k6e : (c.kind == 6) = true := by rw [hk]; rfl
  have hM : chMay m c = mayBktF m c.bucket := by unfold chMay; rw [if_neg (by unfold isOs; omega), if_neg (by omega), if_pos hk]
  have hE : chMade m c = withB m c.bucket := by unfold chMade; rw [if_neg (by omega), if_pos hk]
  by_cases c1 : c.bucket.id < -32
  · have hB : chMay m c = 22 := by rw [hM]; unfold mayBktF; rw [if_pos (.inl c1)]
    simp only [core, zrA, zrS, zrM, zrL, zrE, reduceCtorEq, zrD, ziE, ziL, ziN, o1, o2, o3, a1, w1, a2, a3, LP, LC, P0, Z0, lP, lC, lZ, hne, k5e, k6e, c1]
    exact R10.no hm (EP.put _ (by omega)) hB (by decide)
  by_cases c2 : -1 < c.bucket.id
  · have hB : chMay m c = 22 := by rw [hM]; unfold mayBktF; rw [if_pos (.inr c2)]
    simp only [core, zrA, zrS, zrM, zrL, zrE, reduceCtorEq, zrD, ziE, ziL, ziN, o1, o2, o3, a1, w1, a2, a3, LP, LC, P0, Z0, lP, lC, lZ, hne, k5e, k6e, c1, c2]
    exact R10.no hm (EP.put _ (by omega)) hB (by decide)
  have hB : chMay m c = if (bucketF m c.bucket.id).isNone = true ∧ c.bucket.items = [] then 2 else if goodF (withB m c.bucket) then 0 else 22 := by rw [hM]; unfold mayBktF; rw [if_neg (by omega)]
  simp only [core, zrA, zrS, zrM, zrL, zrE, reduceCtorEq, zrD, ziE, ziL, ziN, o1, o2, o3, a1, w1, a2, a3, LP, LC, P0, Z0, lP, lC, lZ, hne, k5e, k6e, c1, c2]
  refine (bucketR_x c.bucket.id (hm.ext EP (Nat.le_refl _)) (Sm_le (Nat.le_succ _) hz.sb)).mono ?_
  rintro _ h2 ⟨e2, va2, vw2, rfl, b1, b2⟩
  have x1 := b1.one
  have x2 := b2.one
  have E2 := EP.step e2
  have f2 := e2.1
  obtain ⟨h3, hh3⟩ : ∃ h3, h3 = h2.push (.cells [.lit (.int .i64 (bucketG m c.bucket.id).id), .lit (.int .i64 (bucketG m c.bucket.id).kind), va2, vw2] 50) := ⟨_, rfl⟩
  have e3 : Ext h2.n h2 h3 := hh3 ▸ (Ext.refl _ _).push _ (Nat.le_refl _)
  have n3 : h3.n = h2.n + 1 := by rw [hh3, n_push]
  have e23 := e2.trans (e3.mono f2)
  have P3 := (e23.2 _ lP).trans P0
  have C3 := (e23.2 _ lC).trans C0
  have Z3 := (e23.2 _ lZ).trans Z0
  have LP3 := ld_at (T := tabOf Try.prog NT0) P3
  have LC3 := ld_at (T := tabOf Try.prog NT0) C3
  have lP3 := at_lt P3
  have lC3 := at_lt C3
  have lZ3 := at_lt Z3
  have E3 := E2.step e3
  have hci : ((c.bucket.items.length : Int) == 0) = decide (c.bucket.items = []) := by
    by_cases h : c.bucket.items = []
    · rw [h]; rfl
    · rw [decide_eq_false h]; simp; exact h
  have fin : ∀ (hne : ¬ ((bucketF m c.bucket.id).isNone = true ∧ c.bucket.items = [])), WC Try.prog (tabOf Try.prog NT0) S0 63 [mpV m vo vp vb, bktV c.bucket va vw] h3 fun r h' => Ext h3.n h3 h' ∧ ∃ ro rp rb, r = mpV (withB m c.bucket) ro rp rb ∧ MpAt (fun b => h3.n ≤ b) h' (withB m c.bucket) ro rp rb := fun _ => bucketed10_x c.bucket (hm.ext E3 (Nat.le_refl _)) hok (up47 hz.sb) (hc.a.ext E3 (Nat.le_refl _)) (hc.w.ext E3 (Nat.le_refl _)) hc.la hc.lw hc.hi
  cases hb : bucketF m c.bucket.id with
  | none =>
    rw [hb] at fin hB
    by_cases ci : c.bucket.items = []
    · have hcd : decide (c.bucket.items = []) = true := decide_eq_true ci
      have hB : chMay m c = 2 := by rw [hB]; exact if_pos ⟨rfl, ci⟩
      simp only [core, zrA, zrS, zrM, zrL, zrE, reduceCtorEq, zrD, ziE, ziL, ziN, o1, o2, o3, a1, w1, a2, a3, bktV, x1, x2, ← hh3, LP3, LC3, lP3, lC3, lZ3, Z3, hci, hb, hcd, Option.isSome_none]
      exact R10.no hm (E3.put _ (by omega)) hB (by decide)
    have hcd : decide (c.bucket.items = []) = false := decide_eq_false ci
    have hB : chMay m c = if goodF (withB m c.bucket) then 0 else 22 := by rw [hB]; exact if_neg (fun hh => ci hh.2)
    simp only [core, zrA, zrS, zrM, zrL, zrE, reduceCtorEq, zrD, ziE, ziL, ziN, o1, o2, o3, a1, w1, a2, a3, bktV, x1, x2, ← hh3, LP3, LC3, lP3, lC3, lZ3, Z3, hci, hb, hcd, Option.isSome_none]
    refine (fin (fun hh => ci hh.2)).mono ?_
    rintro _ h4 ⟨e4, ro, rp, rb, rfl, m4⟩
    have q1 := m4.o.one
    have q2 := m4.p.one
    have q3 := m4.b.one
    have f4 := e4.1
    obtain ⟨h5, hh5⟩ : ∃ h5, h5 = h4.push (.cells [.lit (.int .i64 m.epoch), ro, rp, rb, .lit (.int .i64 m.leaf)] 26) := ⟨_, rfl⟩
    have e5 : Ext h4.n h4 h5 := hh5 ▸ (Ext.refl _ _).push _ (Nat.le_refl _)
    have D5 : h5.at h4.n = some (.cells [.lit (.int .i64 m.epoch), ro, rp, rb, .lit (.int .i64 m.leaf)] 26) := hh5 ▸ at_push_n _ _
    have n5 : h5.n = h4.n + 1 := by rw [hh5, n_push]
    have LD5 := ld_at (T := tabOf Try.prog NT0) D5
    have lD5 := at_lt D5
    have m5 := m4.ext e5 (Nat.le_refl _)
    have hw1 : (withB m c.bucket).epoch = m.epoch := rfl
    have hw2 : (withB m c.bucket).leaf = m.leaf := rfl
    simp only [core, zrA, zrS, zrM, zrL, zrE, reduceCtorEq, zrD, ziE, ziL, ziN, mpV, q1, q2, q3, ← hh5, LD5, hw1, hw2]
    refine (good_x m5 (withB_ok hz.sb hz.bk hc.la hc.lw)).mono ?_
    rintro _ h6 ⟨e6, rfl⟩
    have e46 := e4.trans ((e5.mono f4).trans (e6.mono (by omega)))
    have P6 := (e46.2 _ lP3).trans P3
    have Z6 := (e46.2 _ lZ3).trans Z3
    have D6 := (e6.2 _ lD5).trans D5
    have LP6 := ld_at (T := tabOf Try.prog NT0) P6
    have LD6 := ld_at (T := tabOf Try.prog NT0) D6
    have lZ6 := at_lt Z6
    have f6 := e6.1
    by_cases hg : goodF (withB m c.bucket) = true
    · have hB : chMay m c = 0 := by rw [hB]; exact if_pos hg
      simp only [core, zrA, zrS, zrM, zrL, zrE, reduceCtorEq, zrD, ziE, ziL, ziN, hg, LP6, LD6, Z6, lZ6, q1, q2, q3, o1, o2, o3]
      have key := R10.yes (F := F) (H := H) (m := m) (c := c) (vo := ro) (vp := rp) (vb := rb) (h' := h6.put (H.n + 2) (.cells [.lit (.int .i64 m.epoch), ro, rp, rb, .lit (.int .i64 m.leaf)] 26)) (by rw [hE]; exact ((m5.ext e6 (Nat.le_refl _)).putLt (by omega)).monoN (by omega)) ((E3.step e46).put _ (by omega)) hB
      rw [hE] at key
      exact key
    · have hgf : goodF (withB m c.bucket) = false := by simpa using hg
      have hB : chMay m c = 22 := by rw [hB]; exact if_neg hg
      simp only [core, zrA, zrS, zrM, zrL, zrE, reduceCtorEq, zrD, ziE, ziL, ziN, hgf, LP6, LD6, Z6, lZ6, q1, q2, q3, o1, o2, o3]
      exact R10.no hm ((E3.step e46).put _ (by omega)) hB (by decide)
  | some y =>
    rw [hb] at fin hB
    have hB : chMay m c = if goodF (withB m c.bucket) then 0 else 22 := by rw [hB]; exact if_neg (fun hh => by cases hh.1)
    obtain ⟨dd, hdd⟩ : ∃ dd, dd = decide (c.bucket.items = []) := ⟨_, rfl⟩
    rw [← hdd] at hci
    cases dd with
    | true =>
      simp only [core, zrA, zrS, zrM, zrL, zrE, reduceCtorEq, zrD, ziE, ziL, ziN, o1, o2, o3, a1, w1, a2, a3, bktV, x1, x2, ← hh3, LP3, LC3, lP3, lC3, lZ3, Z3, hci, hb, Option.isSome_some]
      refine (fin (fun hh => by cases hh.1)).mono ?_
      rintro _ h4 ⟨e4, ro, rp, rb, rfl, m4⟩
      have q1 := m4.o.one
      have q2 := m4.p.one
      have q3 := m4.b.one
      have f4 := e4.1
      obtain ⟨h5, hh5⟩ : ∃ h5, h5 = h4.push (.cells [.lit (.int .i64 m.epoch), ro, rp, rb, .lit (.int .i64 m.leaf)] 26) := ⟨_, rfl⟩
      have e5 : Ext h4.n h4 h5 := hh5 ▸ (Ext.refl _ _).push _ (Nat.le_refl _)
      have D5 : h5.at h4.n = some (.cells [.lit (.int .i64 m.epoch), ro, rp, rb, .lit (.int .i64 m.leaf)] 26) := hh5 ▸ at_push_n _ _
      have n5 : h5.n = h4.n + 1 := by rw [hh5, n_push]
      have LD5 := ld_at (T := tabOf Try.prog NT0) D5
      have lD5 := at_lt D5
      have m5 := m4.ext e5 (Nat.le_refl _)
      have hw1 : (withB m c.bucket).epoch = m.epoch := rfl
      have hw2 : (withB m c.bucket).leaf = m.leaf := rfl
      simp only [core, zrA, zrS, zrM, zrL, zrE, reduceCtorEq, zrD, ziE, ziL, ziN, mpV, q1, q2, q3, ← hh5, LD5, hw1, hw2]
      refine (good_x m5 (withB_ok hz.sb hz.bk hc.la hc.lw)).mono ?_
      rintro _ h6 ⟨e6, rfl⟩
      have e46 := e4.trans ((e5.mono f4).trans (e6.mono (by omega)))
      have P6 := (e46.2 _ lP3).trans P3
      have Z6 := (e46.2 _ lZ3).trans Z3
      have D6 := (e6.2 _ lD5).trans D5
      have LP6 := ld_at (T := tabOf Try.prog NT0) P6
      have LD6 := ld_at (T := tabOf Try.prog NT0) D6
      have lZ6 := at_lt Z6
      have f6 := e6.1
      by_cases hg : goodF (withB m c.bucket) = true
      · have hB : chMay m c = 0 := by rw [hB]; exact if_pos hg
        simp only [core, zrA, zrS, zrM, zrL, zrE, reduceCtorEq, zrD, ziE, ziL, ziN, hg, LP6, LD6, Z6, lZ6, q1, q2, q3, o1, o2, o3]
        have key := R10.yes (F := F) (H := H) (m := m) (c := c) (vo := ro) (vp := rp) (vb := rb) (h' := h6.put (H.n + 2) (.cells [.lit (.int .i64 m.epoch), ro, rp, rb, .lit (.int .i64 m.leaf)] 26)) (by rw [hE]; exact ((m5.ext e6 (Nat.le_refl _)).putLt (by omega)).monoN (by omega)) ((E3.step e46).put _ (by omega)) hB
        rw [hE] at key
        exact key
      · have hgf : goodF (withB m c.bucket) = false := by simpa using hg
        have hB : chMay m c = 22 := by rw [hB]; exact if_neg hg
        simp only [core, zrA, zrS, zrM, zrL, zrE, reduceCtorEq, zrD, ziE, ziL, ziN, hgf, LP6, LD6, Z6, lZ6, q1, q2, q3, o1, o2, o3]
        exact R10.no hm ((E3.step e46).put _ (by omega)) hB (by decide)
    | false =>
      simp only [core, zrA, zrS, zrM, zrL, zrE, reduceCtorEq, zrD, ziE, ziL, ziN, o1, o2, o3, a1, w1, a2, a3, bktV, x1, x2, ← hh3, LP3, LC3, lP3, lC3, lZ3, Z3, hci, hb, Option.isSome_some]
      refine (fin (fun hh => by cases hh.1)).mono ?_
      rintro _ h4 ⟨e4, ro, rp, rb, rfl, m4⟩
      have q1 := m4.o.one
      have q2 := m4.p.one
      have q3 := m4.b.one
      have f4 := e4.1
      obtain ⟨h5, hh5⟩ : ∃ h5, h5 = h4.push (.cells [.lit (.int .i64 m.epoch), ro, rp, rb, .lit (.int .i64 m.leaf)] 26) := ⟨_, rfl⟩
      have e5 : Ext h4.n h4 h5 := hh5 ▸ (Ext.refl _ _).push _ (Nat.le_refl _)
      have D5 : h5.at h4.n = some (.cells [.lit (.int .i64 m.epoch), ro, rp, rb, .lit (.int .i64 m.leaf)] 26) := hh5 ▸ at_push_n _ _
      have n5 : h5.n = h4.n + 1 := by rw [hh5, n_push]
      have LD5 := ld_at (T := tabOf Try.prog NT0) D5
      have lD5 := at_lt D5
      have m5 := m4.ext e5 (Nat.le_refl _)
      have hw1 : (withB m c.bucket).epoch = m.epoch := rfl
      have hw2 : (withB m c.bucket).leaf = m.leaf := rfl
      simp only [core, zrA, zrS, zrM, zrL, zrE, reduceCtorEq, zrD, ziE, ziL, ziN, mpV, q1, q2, q3, ← hh5, LD5, hw1, hw2]
      refine (good_x m5 (withB_ok hz.sb hz.bk hc.la hc.lw)).mono ?_
      rintro _ h6 ⟨e6, rfl⟩
      have e46 := e4.trans ((e5.mono f4).trans (e6.mono (by omega)))
      have P6 := (e46.2 _ lP3).trans P3
      have Z6 := (e46.2 _ lZ3).trans Z3
      have D6 := (e6.2 _ lD5).trans D5
      have LP6 := ld_at (T := tabOf Try.prog NT0) P6
      have LD6 := ld_at (T := tabOf Try.prog NT0) D6
      have lZ6 := at_lt Z6
      have f6 := e6.1
      by_cases hg : goodF (withB m c.bucket) = true
      · have hB : chMay m c = 0 := by rw [hB]; exact if_pos hg
        simp only [core, zrA, zrS, zrM, zrL, zrE, reduceCtorEq, zrD, ziE, ziL, ziN, hg, LP6, LD6, Z6, lZ6, q1, q2, q3, o1, o2, o3]
        have key := R10.yes (F := F) (H := H) (m := m) (c := c) (vo := ro) (vp := rp) (vb := rb) (h' := h6.put (H.n + 2) (.cells [.lit (.int .i64 m.epoch), ro, rp, rb, .lit (.int .i64 m.leaf)] 26)) (by rw [hE]; exact ((m5.ext e6 (Nat.le_refl _)).putLt (by omega)).monoN (by omega)) ((E3.step e46).put _ (by omega)) hB
        rw [hE] at key
        exact key
      · have hgf : goodF (withB m c.bucket) = false := by simpa using hg
        have hB : chMay m c = 22 := by rw [hB]; exact if_neg hg
        simp only [core, zrA, zrS, zrM, zrL, zrE, reduceCtorEq, zrD, ziE, ziL, ziN, hgf, LP6, LD6, Z6, lZ6, q1, q2, q3, o1, o2, o3]
        exact R10.no hm ((E3.step e46).put _ (by omega)) hB (by decide)
end Go.Proofs.Ytmfhagahkkhbeaa.Ex
end

section

set_option linter.unusedSimpArgs false
set_option linter.unusedVariables false
set_option maxRecDepth 10000
set_option maxHeartbeats 4000000
namespace Go.Proofs.Ytmfhagahkkhbeaa.Ex
open Go
theorem osdG_ok {F : Nat → Prop} {H : AH} {m : MapD} {vo vp vb : AV} (hm : MpAt F H m vo vp vb) (n : Int) : okO (osdG m n) := by
  unfold osdG
  split
  · rw [List.getD_eq_getElem?_getD]
    cases hq : m.osds[n.toNat]? with
    | none => exact okO0
    | some x =>
      obtain ⟨c, hc1, _⟩ := hm.o.get (T := tabOf Try.prog NT0) hq
      exact (ROsd_is.1 hc1).2
  · exact okO0
theorem made10O_x {F F2 : Nat → Prop} {H : AH} {m : MapD} {vo vp vb va vw : AV} (c : ChD) (hm : MpAt F H m vo vp vb) (hok : OkMp m) (hz : MpSz m) (hc : ChIn F2 H c va vw) (hk : isOs c.kind) :
    WC Try.prog (tabOf Try.prog NT0) S0 40 [mpV m vo vp vb, chV c va vw] H (R10 F H m c) := by
  refine WC_fn Try.func40 rfl rfl ?_
  have o1 := hm.o.one
  have o2 := hm.p.one
  have o3 := hm.b.one
  have a1 := hc.a.one
  have w1 := hc.w.one
  have I64w : I64 (65536 : Int) := by unfold I64; decide
  have kL : ¬ c.kind < 1 := by unfold isOs at hk; omega
  have kG : ¬ 7 < c.kind := by unfold isOs at hk; omega
  have kE : c.kind ≤ 4 := by unfold isOs at hk; omega
  obtain ⟨hp, hhp, EP, P0, C0, Z0, nP⟩ := made_boxes (H := H) (mC m vo vp vb) (cC c va vw) mz
  unfold mC at P0 hhp
  unfold cC at C0 hhp
  unfold mz at Z0 hhp
  have LP := ld_at (T := tabOf Try.prog NT0) P0
  have LC := ld_at (T := tabOf Try.prog NT0) C0
  have lP := at_lt P0
  have lC := at_lt C0
  have lZ := at_lt Z0
  have hM : chMay m c = if c.osd < 0 ∨ 8 ≤ c.osd then 22 else mayOsdF m c := by unfold chMay; rw [if_pos hk]
  by_cases q1 : c.osd < 0
  · have hB : chMay m c = 22 := by rw [hM]; exact if_pos (.inl q1)
    simp only [core, zrA, zrS, zrM, zrL, zrE, reduceCtorEq, zrD, ziE, ziL, ziN, Try.ntmps40, mpV, chV, o1, o2, o3, a1, w1, ← hhp, LP, LC, P0, Z0, lP, lC, lZ, kL, kG, kE, q1]
    exact R10.no hm (EP.put _ (by omega)) hB (by decide)
  by_cases q2 : 8 ≤ c.osd
  · have hB : chMay m c = 22 := by rw [hM]; exact if_pos (.inr q2)
    simp only [core, zrA, zrS, zrM, zrL, zrE, reduceCtorEq, zrD, ziE, ziL, ziN, Try.ntmps40, mpV, chV, o1, o2, o3, a1, w1, ← hhp, LP, LC, P0, Z0, lP, lC, lZ, kL, kG, kE, q1, q2]
    exact R10.no hm (EP.put _ (by omega)) hB (by decide)
  have hM : chMay m c = mayOs m.epoch (osdG m c.osd) c.kind c.value := by rw [hM]; exact if_neg (by omega)
  simp only [core, zrA, zrS, zrM, zrL, zrE, reduceCtorEq, zrD, ziE, ziL, ziN, Try.ntmps40, mpV, chV, o1, o2, o3, a1, w1, ← hhp, LP, LC, P0, Z0, lP, lC, lZ, kL, kG, kE, q1, q2]
  clear hhp
  refine (osdR_x c.osd (hm.ext EP (Nat.le_refl _)) hz.so).mono ?_
  rintro _ h2 ⟨e2, rfl⟩
  have okx := osdG_ok hm c.osd
  obtain ⟨k, hk2⟩ : ∃ k : Nat, c.osd = (k : Int) := ⟨c.osd.toNat, by omega⟩
  have hk8 : k < 8 := by omega
  have hE : chMade m c = setO m k (newOs m.epoch (osdG m c.osd) c.kind c.value) := by
    unfold chMade
    unfold isOs at hk
    rw [if_neg (by omega), if_neg (by omega), if_neg (by omega), hk2]
    rfl
  obtain ⟨oo, hoo⟩ : ∃ oo, oo = osdG m c.osd := ⟨_, rfl⟩
  rw [← hoo] at hM okx hE ⊢
  clear hoo
  obtain ⟨ex, up, w, bt, uf, ut⟩ := oo
  unfold okO at okx
  simp only at okx
  obtain ⟨h3, hh3⟩ : ∃ h3, h3 = h2.push (.cells [.lit (.bool ex), .lit (.bool up), .lit (.int .i64 w), .lit (.int .i64 bt), .lit (.int .i64 uf), .lit (.int .i64 ut)] 57) := ⟨_, rfl⟩
  have e3 : Ext h2.n h2 h3 := hh3 ▸ (Ext.refl _ _).push _ (Nat.le_refl _)
  have D3 : h3.at h2.n = some (.cells [.lit (.bool ex), .lit (.bool up), .lit (.int .i64 w), .lit (.int .i64 bt), .lit (.int .i64 uf), .lit (.int .i64 ut)] 57) := hh3 ▸ at_push_n _ _
  have n3 : h3.n = h2.n + 1 := by rw [hh3, n_push]
  have f2 := e2.1
  have e23 := e2.trans (e3.mono f2)
  have P3 := (e23.2 _ lP).trans P0
  have C3 := (e23.2 _ lC).trans C0
  have Z3 := (e23.2 _ lZ).trans Z0
  have LP3 := ld_at (T := tabOf Try.prog NT0) P3
  have LC3 := ld_at (T := tabOf Try.prog NT0) C3
  have LD3 := ld_at (T := tabOf Try.prog NT0) D3
  have lP3 := at_lt P3
  have lC3 := at_lt C3
  have lZ3 := at_lt Z3
  have lD3 := at_lt D3
  have E3 := (EP.step e2).step e3
  have ho0 : ¬ h2.n = H.n := by omega
  have ho1 : ¬ h2.n = H.n + 1 := by omega
  have ho2 : ¬ h2.n = H.n + 2 := by omega
  have fin : ∀ (h : AH) (y : OsdD), okO y → Ext H.n H h → h3.n ≤ h.n → h.at (H.n + 2) = some (.cells [.lit (.int .i64 0), .lit (.slice none 0 0), .lit (.slice none 0 0), .lit (.slice none 0 0), .lit (.int .i64 0)] 26) → newOs m.epoch ⟨ex, up, w, bt, uf, ut⟩ c.kind c.value = y → chMay m c = 0 → WC Try.prog (tabOf Try.prog NT0) S0 54 [mpV m vo vp vb, .lit (.int .i64 (k : Int)), osdV y] h fun r h' =>
      ∃ ro rp rb, ro.one = true ∧ rp.one = true ∧ rb.one = true ∧ r = mpV (chMade m c) ro rp rb ∧ h'.at (H.n + 2) = some (.cells [.lit (.int .i64 0), .lit (.slice none 0 0), .lit (.slice none 0 0), .lit (.slice none 0 0), .lit (.int .i64 0)] 26) ∧ ∀ X, R10 F H m c (.tup [mpV (chMade m c) ro rp rb, .lit (.int .i64 0)]) (h'.put (H.n + 2) X) := by
    intro h y hy hEh hn hZ hnew hB
    refine (set10_x y (hm.ext hEh (Nat.le_refl _)) hok hk8 hy).mono ?_
    rintro _ h4 ⟨e4, ro, rp, rb, rfl, m4⟩
    rw [hnew] at hE
    rw [← hE] at m4 ⊢
    have f4 := e4.1
    exact ⟨ro, rp, rb, m4.o.one, m4.p.one, m4.b.one, rfl, (e4.2 _ (by omega)).trans hZ, fun X => R10.yes ((m4.putLt (by omega)).monoN (by omega)) ((hEh.step e4).put _ (by omega)) hB⟩
  have kk0 := hk
  rcases kk0 with kk | kk | kk | kk
  · skip
    have k1e : (c.kind == 1) = true := by simp [kk]
    by_cases c1 : c.value < 1
    · skip
      have hB : chMay m c = 22 := by rw [hM]; simp [mayOs, kk, c1]
      simp only [core, zrA, zrS, zrM, zrL, zrE, reduceCtorEq, zrD, ziE, ziL, ziN, o1, o2, o3, a1, w1, ← hh3, LP3, LC3, LD3, D3, Z3, lP3, lC3, lZ3, lD3, ho0, ho1, ho2, osdV, k1e, c1]
      exact R10.no hm (E3.put _ (by omega)) hB (by decide)
    cases ex with
    | false =>
      have hB : chMay m c = 0 := by rw [hM]; simp [mayOs, kk, c1]
      have hC := hE
      simp only [core, zrA, zrS, zrM, zrL, zrE, reduceCtorEq, zrD, ziE, ziL, ziN, o1, o2, o3, a1, w1, ← hh3, LP3, LC3, LD3, D3, Z3, lP3, lC3, lZ3, lD3, ho0, ho1, ho2, osdV, k1e, c1, hk2]
      rw [WB_regionD [0, 1, 2, 3, 4, 5, 6, 7, 8, 9, 10, 11, 12] 374075901471492738749618992937956824810286382850048 (by kernel_rfl)]
      repeat (first | ((with_reducible refine WDM_cons ?_; simp only [dw1]; try simp only [dw2, zrA, zrM, zrR, zrO, zrE]); simp only [core, zrA, zrS, zrM, zrL, zrE, reduceCtorEq, zrD, ziE, ziL, ziN, cored, o1, o2, o3, a1, w1, ← hh3, LP3, LC3, LD3, D3, Z3, lP3, lC3, lZ3, lD3, ho0, ho1, ho2, osdV, k1e, c1, hk2, same_int]) | simp only [core, zrA, zrS, zrM, zrL, zrE, reduceCtorEq, zrD, ziE, ziL, ziN, cored, o1, o2, o3, a1, w1, ← hh3, LP3, LC3, LD3, D3, Z3, lP3, lC3, lZ3, lD3, ho0, ho1, ho2, osdV, k1e, c1, hk2, same_int])
      refine (fin _ ⟨true, true, 65536, c.value, IntKind.i64.wrap (m.epoch + 1), ut⟩ ⟨I64w, hc.hv, wrap_I64 _, okx.2.2.2⟩ ?_ ?_ ?_ (by simp [newOs, kk, c1]) hB).mono ?_
      · refine Ext.put _ (Ext.put _ (Ext.put _ (Ext.put _ ?_ (by omega)) (by omega)) (by omega)) (by omega)
        first | exact E3 | exact E3.put _ (by omega)
      · simp only [n_put]; exact Nat.le_refl _
      · simp only [at_put_ne _ ho2]; exact Z3
      rintro _ h4 ⟨ro, rp, rb, z1, z2, z3, rfl, Z4, hR⟩
      have lZ4 := at_lt Z4
      simp only [core, zrA, zrS, zrM, zrL, zrE, reduceCtorEq, zrD, ziE, ziL, ziN, mpV, z1, z2, z3, Z4, lZ4]
      exact hR _
    | true =>
      by_cases c2 : c.value ≤ bt
      · skip
        have hB : chMay m c = 126 := by rw [hM]; simp [mayOs, kk, c1, c2]
        simp only [core, zrA, zrS, zrM, zrL, zrE, reduceCtorEq, zrD, ziE, ziL, ziN, o1, o2, o3, a1, w1, ← hh3, LP3, LC3, LD3, D3, Z3, lP3, lC3, lZ3, lD3, ho0, ho1, ho2, osdV, k1e, c1, c2]
        exact R10.no hm (E3.put _ (by omega)) hB (by decide)
      · skip
        have hB : chMay m c = 0 := by rw [hM]; simp [mayOs, kk, c1, c2]
        have hC := hE
        simp only [core, zrA, zrS, zrM, zrL, zrE, reduceCtorEq, zrD, ziE, ziL, ziN, o1, o2, o3, a1, w1, ← hh3, LP3, LC3, LD3, D3, Z3, lP3, lC3, lZ3, lD3, ho0, ho1, ho2, osdV, k1e, c1, c2, hk2]
        rw [WB_regionD [0, 1, 2, 3, 4, 5, 6, 7, 8, 9, 10, 11, 12] 374075901471492738749618992937956824810286382850048 (by kernel_rfl)]
        repeat (first | ((with_reducible refine WDM_cons ?_; simp only [dw1]; try simp only [dw2, zrA, zrM, zrR, zrO, zrE]); simp only [core, zrA, zrS, zrM, zrL, zrE, reduceCtorEq, zrD, ziE, ziL, ziN, cored, o1, o2, o3, a1, w1, ← hh3, LP3, LC3, LD3, D3, Z3, lP3, lC3, lZ3, lD3, ho0, ho1, ho2, osdV, k1e, c1, c2, hk2, same_int]) | simp only [core, zrA, zrS, zrM, zrL, zrE, reduceCtorEq, zrD, ziE, ziL, ziN, cored, o1, o2, o3, a1, w1, ← hh3, LP3, LC3, LD3, D3, Z3, lP3, lC3, lZ3, lD3, ho0, ho1, ho2, osdV, k1e, c1, c2, hk2, same_int])
        refine (fin _ ⟨true, true, w, c.value, IntKind.i64.wrap (m.epoch + 1), ut⟩ ⟨okx.1, hc.hv, wrap_I64 _, okx.2.2.2⟩ ?_ ?_ ?_ (by simp [newOs, kk, c1, c2]) hB).mono ?_
        · refine Ext.put _ (Ext.put _ (Ext.put _ (Ext.put _ ?_ (by omega)) (by omega)) (by omega)) (by omega)
          first | exact E3 | exact E3.put _ (by omega)
        · simp only [n_put]; exact Nat.le_refl _
        · simp only [at_put_ne _ ho2]; exact Z3
        rintro _ h4 ⟨ro, rp, rb, z1, z2, z3, rfl, Z4, hR⟩
        have lZ4 := at_lt Z4
        simp only [core, zrA, zrS, zrM, zrL, zrE, reduceCtorEq, zrD, ziE, ziL, ziN, mpV, z1, z2, z3, Z4, lZ4]
        exact hR _
  · skip
    have k1e : (c.kind == 1) = false := by simp [kk]
    have k2e : (c.kind == 2) = true := by simp [kk]
    cases ex with
    | false =>
      have hB : chMay m c = 2 := by rw [hM]; simp [mayOs, kk]
      simp only [core, zrA, zrS, zrM, zrL, zrE, reduceCtorEq, zrD, ziE, ziL, ziN, o1, o2, o3, a1, w1, ← hh3, LP3, LC3, LD3, D3, Z3, lP3, lC3, lZ3, lD3, ho0, ho1, ho2, osdV, k1e, k2e]
      exact R10.no hm (E3.put _ (by omega)) hB (by decide)
    | true =>
      cases up with
      | false =>
        have hB : chMay m c = 126 := by rw [hM]; simp [mayOs, kk]
        simp only [core, zrA, zrS, zrM, zrL, zrE, reduceCtorEq, zrD, ziE, ziL, ziN, o1, o2, o3, a1, w1, ← hh3, LP3, LC3, LD3, D3, Z3, lP3, lC3, lZ3, lD3, ho0, ho1, ho2, osdV, k1e, k2e]
        exact R10.no hm (E3.put _ (by omega)) hB (by decide)
      | true =>
        by_cases c2 : c.value = bt
        · have c2n : (bt != c.value) = false := by simp [c2]
          have hB : chMay m c = 0 := by rw [hM]; simp [mayOs, kk, c2]
          have hC := hE
          simp only [core, zrA, zrS, zrM, zrL, zrE, reduceCtorEq, zrD, ziE, ziL, ziN, o1, o2, o3, a1, w1, ← hh3, LP3, LC3, LD3, D3, Z3, lP3, lC3, lZ3, lD3, ho0, ho1, ho2, osdV, k1e, k2e, c2n, hk2]
          refine (fin _ ⟨true, false, w, bt, uf, ut⟩ ⟨okx.1, okx.2.1, okx.2.2.1, okx.2.2.2⟩ ?_ ?_ ?_ (by simp [newOs, kk, c2]) hB).mono ?_
          · first | exact E3.put _ (by omega) | exact (E3.put _ (by omega)).put _ (by omega)
          · simp only [n_put]; exact Nat.le_refl _
          · simp only [at_put_ne _ ho2]; exact Z3
          rintro _ h4 ⟨ro, rp, rb, z1, z2, z3, rfl, Z4, hR⟩
          have lZ4 := at_lt Z4
          simp only [core, zrA, zrS, zrM, zrL, zrE, reduceCtorEq, zrD, ziE, ziL, ziN, mpV, z1, z2, z3, Z4, lZ4]
          exact hR _
        · have c2n : (bt != c.value) = true := by simp; exact fun hh => c2 hh.symm
          have hB : chMay m c = 126 := by rw [hM]; simp [mayOs, kk, c2]
          simp only [core, zrA, zrS, zrM, zrL, zrE, reduceCtorEq, zrD, ziE, ziL, ziN, o1, o2, o3, a1, w1, ← hh3, LP3, LC3, LD3, D3, Z3, lP3, lC3, lZ3, lD3, ho0, ho1, ho2, osdV, k1e, k2e, c2n]
          exact R10.no hm (E3.put _ (by omega)) hB (by decide)
  · skip
    have k1e : (c.kind == 1) = false := by simp [kk]
    have k2e : (c.kind == 2) = false := by simp [kk]
    have k3e : (c.kind == 3) = true := by simp [kk]
    cases ex with
    | false =>
      have hB : chMay m c = 2 := by rw [hM]; simp [mayOs, kk]
      simp only [core, zrA, zrS, zrM, zrL, zrE, reduceCtorEq, zrD, ziE, ziL, ziN, o1, o2, o3, a1, w1, ← hh3, LP3, LC3, LD3, D3, Z3, lP3, lC3, lZ3, lD3, ho0, ho1, ho2, osdV, k1e, k2e, k3e]
      exact R10.no hm (E3.put _ (by omega)) hB (by decide)
    | true =>
      by_cases c1 : c.value < 0
      · skip
        have hB : chMay m c = 22 := by rw [hM]; simp [mayOs, kk, c1]
        simp only [core, zrA, zrS, zrM, zrL, zrE, reduceCtorEq, zrD, ziE, ziL, ziN, o1, o2, o3, a1, w1, ← hh3, LP3, LC3, LD3, D3, Z3, lP3, lC3, lZ3, lD3, ho0, ho1, ho2, osdV, k1e, k2e, k3e, c1]
        exact R10.no hm (E3.put _ (by omega)) hB (by decide)
      by_cases c2 : 65536 < c.value
      · skip
        have hB : chMay m c = 22 := by rw [hM]; simp [mayOs, kk, c1, c2]
        simp only [core, zrA, zrS, zrM, zrL, zrE, reduceCtorEq, zrD, ziE, ziL, ziN, o1, o2, o3, a1, w1, ← hh3, LP3, LC3, LD3, D3, Z3, lP3, lC3, lZ3, lD3, ho0, ho1, ho2, osdV, k1e, k2e, k3e, c1, c2]
        exact R10.no hm (E3.put _ (by omega)) hB (by decide)
      have hB : chMay m c = 0 := by rw [hM]; simp [mayOs, kk, c1, c2]
      have hC := hE
      simp only [core, zrA, zrS, zrM, zrL, zrE, reduceCtorEq, zrD, ziE, ziL, ziN, o1, o2, o3, a1, w1, ← hh3, LP3, LC3, LD3, D3, Z3, lP3, lC3, lZ3, lD3, ho0, ho1, ho2, osdV, k1e, k2e, k3e, c1, c2, hk2]
      refine (fin _ ⟨true, up, c.value, bt, uf, ut⟩ ⟨hc.hv, okx.2⟩ ?_ ?_ ?_ (by simp [newOs, kk, c1, c2]) hB).mono ?_
      · first | exact E3.put _ (by omega) | exact (E3.put _ (by omega)).put _ (by omega)
      · simp only [n_put]; exact Nat.le_refl _
      · simp only [at_put_ne _ ho2]; exact Z3
      rintro _ h4 ⟨ro, rp, rb, z1, z2, z3, rfl, Z4, hR⟩
      have lZ4 := at_lt Z4
      simp only [core, zrA, zrS, zrM, zrL, zrE, reduceCtorEq, zrD, ziE, ziL, ziN, mpV, z1, z2, z3, Z4, lZ4]
      exact hR _
  · skip
    have k1e : (c.kind == 1) = false := by simp [kk]
    have k2e : (c.kind == 2) = false := by simp [kk]
    have k3e : (c.kind == 3) = false := by simp [kk]
    have k4e : (c.kind == 4) = true := by simp [kk]
    cases ex with
    | false =>
      have hB : chMay m c = 2 := by rw [hM]; simp [mayOs, kk]
      simp only [core, zrA, zrS, zrM, zrL, zrE, reduceCtorEq, zrD, ziE, ziL, ziN, o1, o2, o3, a1, w1, ← hh3, LP3, LC3, LD3, D3, Z3, lP3, lC3, lZ3, lD3, ho0, ho1, ho2, osdV, k1e, k2e, k3e, k4e]
      exact R10.no hm (E3.put _ (by omega)) hB (by decide)
    | true =>
      cases up with
      | false =>
        have hB : chMay m c = 2 := by rw [hM]; simp [mayOs, kk]
        simp only [core, zrA, zrS, zrM, zrL, zrE, reduceCtorEq, zrD, ziE, ziL, ziN, o1, o2, o3, a1, w1, ← hh3, LP3, LC3, LD3, D3, Z3, lP3, lC3, lZ3, lD3, ho0, ho1, ho2, osdV, k1e, k2e, k3e, k4e]
        exact R10.no hm (E3.put _ (by omega)) hB (by decide)
      | true =>
        by_cases c1 : c.value < 0
        · skip
          have hB : chMay m c = 22 := by rw [hM]; simp [mayOs, kk, c1]
          simp only [core, zrA, zrS, zrM, zrL, zrE, reduceCtorEq, zrD, ziE, ziL, ziN, o1, o2, o3, a1, w1, ← hh3, LP3, LC3, LD3, D3, Z3, lP3, lC3, lZ3, lD3, ho0, ho1, ho2, osdV, k1e, k2e, k3e, k4e, c1]
          exact R10.no hm (E3.put _ (by omega)) hB (by decide)
        by_cases c2 : m.epoch < c.value
        · skip
          have hB : chMay m c = 22 := by rw [hM]; simp [mayOs, kk, c1, c2]
          simp only [core, zrA, zrS, zrM, zrL, zrE, reduceCtorEq, zrD, ziE, ziL, ziN, o1, o2, o3, a1, w1, ← hh3, LP3, LC3, LD3, D3, Z3, lP3, lC3, lZ3, lD3, ho0, ho1, ho2, osdV, k1e, k2e, k3e, k4e, c1, c2]
          exact R10.no hm (E3.put _ (by omega)) hB (by decide)
        by_cases c3 : c.value ≤ ut
        · skip
          have hB : chMay m c = 126 := by rw [hM]; simp [mayOs, kk, c1, c2, c3]
          simp only [core, zrA, zrS, zrM, zrL, zrE, reduceCtorEq, zrD, ziE, ziL, ziN, o1, o2, o3, a1, w1, ← hh3, LP3, LC3, LD3, D3, Z3, lP3, lC3, lZ3, lD3, ho0, ho1, ho2, osdV, k1e, k2e, k3e, k4e, c1, c2, c3]
          exact R10.no hm (E3.put _ (by omega)) hB (by decide)
        have hB : chMay m c = 0 := by rw [hM]; simp [mayOs, kk, c1, c2, c3]
        have hC := hE
        simp only [core, zrA, zrS, zrM, zrL, zrE, reduceCtorEq, zrD, ziE, ziL, ziN, o1, o2, o3, a1, w1, ← hh3, LP3, LC3, LD3, D3, Z3, lP3, lC3, lZ3, lD3, ho0, ho1, ho2, osdV, k1e, k2e, k3e, k4e, c1, c2, c3, hk2]
        refine (fin _ ⟨true, true, w, bt, uf, c.value⟩ ⟨okx.1, okx.2.1, okx.2.2.1, hc.hv⟩ ?_ ?_ ?_ (by simp [newOs, kk, c1, c2, c3]) hB).mono ?_
        · first | exact E3.put _ (by omega) | exact (E3.put _ (by omega)).put _ (by omega)
        · simp only [n_put]; exact Nat.le_refl _
        · simp only [at_put_ne _ ho2]; exact Z3
        rintro _ h4 ⟨ro, rp, rb, z1, z2, z3, rfl, Z4, hR⟩
        have lZ4 := at_lt Z4
        simp only [core, zrA, zrS, zrM, zrL, zrE, reduceCtorEq, zrD, ziE, ziL, ziN, mpV, z1, z2, z3, Z4, lZ4]
        exact hR _
end Go.Proofs.Ytmfhagahkkhbeaa.Ex
end

section

set_option linter.unusedSimpArgs false
set_option linter.unusedVariables false
set_option maxRecDepth 10000
set_option maxHeartbeats 4000000
namespace Go.Proofs.Ytmfhagahkkhbeaa.Ex
open Go
theorem others10_x {F F2 : Nat → Prop} {H : AH} {m : MapD} {vo vp vb va vw : AV} (c : ChD) (hm : MpAt F H m vo vp vb) (hok : OkMp m) (hz : MpSz m) (hc : ChIn F2 H c va vw) (hk : c.kind = 5 ∨ c.kind = 6 ∨ c.kind = 7) :
    WC Try.prog (tabOf Try.prog NT0) S0 53 [mpV m vo vp vb, chV c va vw] H (R10 F H m c) := by
  rcases hk with hk | hk | hk
  · exact others5_x c hm hok hz hc hk
  · exact others6_x c hm hok hz hc hk
  · exact others7_x c hm hok hz hc hk
theorem R10.up {F : Nat → Prop} {H h h' : AH} {m : MapD} {c : ChD} {r : AV} (hr : R10 F h m c r h') (he : Ext H.n H h) : R10 F H m c r h' := by
  obtain ⟨e, n, ro, rp, rb, hr, hm, hn⟩ := hr
  have f := he.1
  exact ⟨he.step e, n, ro, rp, rb, hr, ⟨hm.o.lift fun b hb _ => ⟨rfl, hb.imp id fun h => by omega⟩, hm.p.lift fun b hb _ => ⟨rfl, hb.imp id fun h => by omega⟩, hm.b.lift fun b hb _ => ⟨rfl, hb.imp id fun h => by omega⟩⟩, hn⟩
theorem ChIn.ext {F : Nat → Prop} {H h : AH} {c : ChD} {va vw : AV} (hc : ChIn F H c va vw) (he : Ext H.n H h) : ChIn F h c va vw :=
  ⟨hc.a.ext he (Nat.le_refl _), hc.w.ext he (Nat.le_refl _), hc.la, hc.lw, hc.hi, hc.hp, hc.hv⟩
theorem made10_x {F F2 : Nat → Prop} {H : AH} {m : MapD} {vo vp vb va vw : AV} (c : ChD) (hF : ∀ k, F k → k < H.n) (hm : MpAt F H m vo vp vb) (hok : OkMp m) (hz : MpSz m) (hc : ChIn F2 H c va vw) :
    WC Try.prog (tabOf Try.prog NT0) S0 40 [mpV m vo vp vb, chV c va vw] H (R10 F H m c) := by
  by_cases hk : isOs c.kind
  · exact made10O_x c hm hok hz hc hk
  refine WC_fn Try.func40 rfl rfl ?_
  have o1 := hm.o.one
  have o2 := hm.p.one
  have o3 := hm.b.one
  have a1 := hc.a.one
  have w1 := hc.w.one
  obtain ⟨hp, hhp, EP, P0, C0, Z0, nP⟩ := made_boxes (H := H) (mC m vo vp vb) (cC c va vw) mz
  unfold mC at P0 hhp
  unfold cC at C0 hhp
  unfold mz at Z0 hhp
  have LP := ld_at (T := tabOf Try.prog NT0) P0
  have LC := ld_at (T := tabOf Try.prog NT0) C0
  have lP := at_lt P0
  have lC := at_lt C0
  have lZ := at_lt Z0
  by_cases k0 : c.kind < 1
  · have hB : chMay m c = 22 := by unfold chMay; rw [if_neg hk, if_neg (by omega), if_neg (by omega), if_neg (by omega)]
    simp only [core, zrA, zrS, zrM, zrL, zrE, reduceCtorEq, zrD, ziE, ziL, ziN, Try.ntmps40, mpV, chV, o1, o2, o3, a1, w1, ← hhp, LP, LC, P0, Z0, lP, lC, lZ, k0]
    exact R10.no hm (EP.put _ (by omega)) hB (by decide)
  by_cases k8 : 7 < c.kind
  · have hB : chMay m c = 22 := by unfold chMay; rw [if_neg hk, if_neg (by omega), if_neg (by omega), if_neg (by omega)]
    simp only [core, zrA, zrS, zrM, zrL, zrE, reduceCtorEq, zrD, ziE, ziL, ziN, Try.ntmps40, mpV, chV, o1, o2, o3, a1, w1, ← hhp, LP, LC, P0, Z0, lP, lC, lZ, k0, k8]
    exact R10.no hm (EP.put _ (by omega)) hB (by decide)
  have k4 : ¬ c.kind ≤ 4 := by unfold isOs at hk; omega
  have e1 : (c.kind == 1) = false := by unfold isOs at hk; simp; omega
  have e2 : (c.kind == 2) = false := by unfold isOs at hk; simp; omega
  have e3 : (c.kind == 3) = false := by unfold isOs at hk; simp; omega
  have e4 : (c.kind == 4) = false := by unfold isOs at hk; simp; omega
  simp only [core, zrA, zrS, zrM, zrL, zrE, reduceCtorEq, zrD, ziE, ziL, ziN, Try.ntmps40, mpV, chV, o1, o2, o3, a1, w1, ← hhp, LP, LC, P0, Z0, lP, lC, lZ, k0, k8, k4, aundef]
  clear hhp
  refine (osdR_x c.osd (hm.ext EP (Nat.le_refl _)) hz.so).mono ?_
  rintro _ h2 ⟨f2, rfl⟩
  obtain ⟨h3, hh3⟩ : ∃ h3, h3 = h2.push (.cells (oC' (osdG m c.osd)) 57) := ⟨_, rfl⟩
  have f3 : Ext h2.n h2 h3 := hh3 ▸ (Ext.refl _ _).push _ (Nat.le_refl _)
  unfold oC' at hh3
  have n3 : h3.n = h2.n + 1 := by rw [hh3, n_push]
  have g2 := f2.1
  have e23 := f2.trans (f3.mono g2)
  have P3 := (e23.2 _ lP).trans P0
  have C3 := (e23.2 _ lC).trans C0
  have Z3 := (e23.2 _ lZ).trans Z0
  have LP3 := ld_at (T := tabOf Try.prog NT0) P3
  have LC3 := ld_at (T := tabOf Try.prog NT0) C3
  have lP3 := at_lt P3
  have lC3 := at_lt C3
  have lZ3 := at_lt Z3
  have E3 := (EP.step f2).step f3
  simp only [core, zrA, zrS, zrM, zrL, zrE, reduceCtorEq, zrD, ziE, ziL, ziN, osdV, o1, o2, o3, a1, w1, ← hh3, LP3, LC3, lP3, lC3, e1, e2, e3, e4]
  refine (others10_x c (hm.ext E3 (Nat.le_refl _)) hok hz (hc.ext E3) (by omega)).mono ?_
  rintro _ h4 ⟨f4, n, ro, rp, rb, rfl, m4, hn⟩
  have q1 := m4.o.one
  have q2 := m4.p.one
  have q3 := m4.b.one
  have Z4 := (f4.2 _ lZ3).trans Z3
  have lZ4 := at_lt Z4
  have g4 := f4.1
  simp only [core, zrA, zrS, zrM, zrL, zrE, reduceCtorEq, zrD, ziE, ziL, ziN, mpV, q1, q2, q3, Z4, lZ4]
  have g3 := E3.1
  refine ⟨(E3.step f4).put _ (by omega), n, ro, rp, rb, rfl, ⟨m4.o.lift fun b hb _ => ⟨at_put_ne _ ?_, ?_⟩, m4.p.lift fun b hb _ => ⟨at_put_ne _ ?_, ?_⟩, m4.b.lift fun b hb _ => ⟨at_put_ne _ ?_, ?_⟩⟩, hn⟩
  all_goals (rcases hb with hb | hb)
  all_goals (first | (have := hF _ hb; omega) | omega | exact .inl hb | exact .inr (by omega))
theorem Apply10_x {F : Nat → Prop} {H : AH} {m : MapD} {vo vp vb vc : AV} (x : IncD) (hm : MpAt F H m vo vp vb) (hok : OkMp m) (he : I64 m.epoch) (hxe : I64 x.epoch) (hcs : IsSl RCh F H vc x.changes) (sc : Sm 88 x.changes) (hsz : ∀ c ∈ x.changes, Sm 8 c.bucket.items ∧ Sm 8 c.bucket.weights)
    (hst : ∀ i n, i ≤ x.changes.length → applyC m (x.changes.take i) = (n, 0) → MpSz n ∧ OkMp n) :
    WC Try.prog (tabOf Try.prog NT0) S0 23 [mpV m vo vp vb, incV x vc] H fun r h' => Ext H.n H h' ∧ ∃ ro rp rb, r = .tup [mpV (applyD m x).1 ro rp rb, .lit (.int .i64 (applyD m x).2)] ∧ MpAt (fun k => H.n ≤ k) h' (applyD m x).1 ro rp rb := by
  refine WC_fn Try.func23 rfl rfl ?_
  have o1 := hm.o.one
  have o2 := hm.p.one
  have o3 := hm.b.one
  have c1 := hcs.one
  have c2 := hcs.isSl
  have c3 := hcs.lenD
  obtain ⟨hp, hhp, EP, P0, C0, Z0, nP⟩ := made_boxes (H := H) (mC m vo vp vb) (.cells [.lit (.int .i64 x.epoch), vc] 39) mz
  unfold mC at P0 hhp
  unfold mz at Z0 hhp
  have LP := ld_at (T := tabOf Try.prog NT0) P0
  have LC := ld_at (T := tabOf Try.prog NT0) C0
  have lP := at_lt P0
  have lC := at_lt C0
  have lZ := at_lt Z0
  unfold I64 at he hxe
  by_cases hE : x.epoch = m.epoch + 1
  · have hM : ¬ m.epoch = 9223372036854775807 := by omega
    have hws : IntKind.i64.wrap (x.epoch - 1) = m.epoch := (wrap_in (by omega) (by omega)).trans (by omega)
    have hEe : (m.epoch != m.epoch) = false := by simp
    have hEl : ¬ x.epoch < m.epoch := by omega
    simp only [core, zrA, zrS, zrM, zrL, zrE, reduceCtorEq, zrD, ziE, ziL, ziN, Try.ntmps23, mpV, incV, o1, o2, o3, c1, ← hhp, LP, LC, lP, lC, hws, hEe, hEl]
    refine (copy10_x (hm.ext EP (Nat.le_refl _)) hok).mono ?_
    rintro _ h3 ⟨e3, ro, rp, rb, rfl, hown⟩
    have C3 := (e3.2 _ lC).trans C0
    have l3 := e3.1
    obtain ⟨h4, hh4⟩ : ∃ h4, h4 = h3.push (.cells [.lit (.int .i64 m.epoch), ro, rp, rb, .lit (.int .i64 m.leaf)] 26) := ⟨_, rfl⟩
    have e4 : Ext h3.n h3 h4 := hh4 ▸ (Ext.refl _ _).push _ (Nat.le_refl _)
    have W4 : h4.at h3.n = some (.cells [.lit (.int .i64 m.epoch), ro, rp, rb, .lit (.int .i64 m.leaf)] 26) := hh4 ▸ at_push_n _ _
    have n4 : h4.n = h3.n + 1 := by rw [hh4, n_push]
    have hw3 := (hown 0 (by omega)).at (F := fun k => hp.n ≤ k) (fun _ h => h)
    have w1 := hw3.o.one
    have w2 := hw3.p.one
    have w3 := hw3.b.one
    have C4 := (e4.2 _ (at_lt C3)).trans C3
    have LC4 := ld_at (T := tabOf Try.prog NT0) C4
    have lC4 := at_lt C4
    simp only [core, zrA, zrS, zrM, zrL, zrE, reduceCtorEq, zrD, ziE, ziL, ziN, mpV, w1, w2, w3, ← hh4, LC4, lC4, c1, c2, c3]
    clear hh4
    obtain ⟨q, hq⟩ : ∃ q, q = h3.n := ⟨_, rfl⟩
    obtain ⟨N, hN⟩ : ∃ N, N = x.changes.length := ⟨_, rfl⟩
    have mt4 : MpAt (fun k => hp.n ≤ k ∧ k ≠ q) h4 m ro rp rb := ⟨hw3.o.lift fun b hb hlt => ⟨e4.2 _ hlt, hb, by omega⟩, hw3.p.lift fun b hb hlt => ⟨e4.2 _ hlt, hb, by omega⟩, hw3.b.lift fun b hb hlt => ⟨e4.2 _ hlt, hb, by omega⟩⟩
    rw [← hq] at W4 n4
    rw [← hq, ← hN]
    rw [← hN] at c3
    have E4 : Ext hp.n hp h4 := e3.trans (e4.mono l3)
    refine WB_for N (fun i t h => ∃ n v1 v2 v3, applyC m (x.changes.take i) = (n, 0) ∧ h.at q = some (.cells [.lit (.int .i64 n.epoch), v1, v2, v3, .lit (.int .i64 n.leaf)] 26) ∧ MpAt (fun k => hp.n ≤ k ∧ k ≠ q) h n v1 v2 v3 ∧ Ext hp.n hp h ∧ h4.n ≤ h.n ∧ t.n = 48 ∧ t.get 2 = .ptr H.n 0 ∧ t.get 3 = .ptr (H.n + 1) 0 ∧ t.get 4 = .ptr (H.n + 2) 0 ∧ t.get 6 = .ptr q 0 ∧ t.get 27 = vc ∧ t.get 28 = .lit (.int .i64 N) ∧ t.get 29 = .lit (.int .i64 i)) ?_ ?_ _ _ ?_
    · rintro i t h hlt hc ⟨n, v1, v2, v3, hap, WQ, own, he', lh4, hn, g2, g3, g4, g6, g27, g28, g29⟩ ih
      obtain ⟨c, hx⟩ : ∃ c, x.changes[i]? = some c := ⟨_, List.getElem?_eq_getElem (by omega)⟩
      obtain ⟨hzn, hon⟩ := hst i n (by omega) hap
      have EH : Ext H.n H h := EP.trans (he'.mono (by omega))
      obtain ⟨cc, hc1, hld, hld0⟩ := hcs.atE (T := tabOf Try.prog NT0) EH RCh_z hx
      obtain ⟨va, vw, rfl, ha, hw, ⟨i1, i2, i3⟩, i4, i5⟩ := RCh_is.1 hc1
      have a1 := ha.one
      have b1 := hw.one
      obtain ⟨la, lw⟩ := hsz c (List.mem_of_getElem? hx)
      have hwi := wrap_succ (n := N) hlt (by have := sc; unfold Sm at this; omega)
      obtain ⟨hA, hhA⟩ : ∃ hA, hA = h.push (cC c va vw) := ⟨_, rfl⟩
      have eA : Ext h.n h hA := hhA ▸ (Ext.refl _ _).push _ (Nat.le_refl _)
      have XA : hA.at h.n = some (cC c va vw) := hhA ▸ at_push_n _ _
      have nA : hA.n = h.n + 1 := by rw [hhA, n_push]
      unfold cC at XA hhA
      have LXA := ld_at (T := tabOf Try.prog NT0) XA
      have QA := (eA.2 _ (at_lt WQ)).trans WQ
      have LQA := ld_at (T := tabOf Try.prog NT0) QA
      have EA := EH.step eA
      have m1 : MpAt (fun k => (hp.n ≤ k ∧ k ≠ q) ∧ k < hA.n) hA n v1 v2 v3 := ⟨own.o.lift fun b hb hlt => ⟨eA.2 _ hlt, hb, by omega⟩, own.p.lift fun b hb hlt => ⟨eA.2 _ hlt, hb, by omega⟩, own.b.lift fun b hb hlt => ⟨eA.2 _ hlt, hb, by omega⟩⟩
      have y1 := m1.o.one
      have y2 := m1.p.one
      have y3 := m1.b.one
      have f1 : hp.n ≤ h.n := he'.1
      have f2 : q < h.n := at_lt WQ
      simp only [core, zrA, zrS, zrM, zrL, zrE, reduceCtorEq, zrD, ziE, ziL, ziN, c2, c3, hn, g2, g3, g4, g6, g27, g28, g29, hlt, hc, hld, hld0, a1, b1, ← hhA, LXA, LQA, y1, y2, y3]
      refine (made10_x c (fun k hk => hk.2) m1 hon hzn ⟨ha.ext EA (Nat.le_refl _), hw.ext EA (Nat.le_refl _), la, lw, i5, i4, i3⟩).mono ?_
      rintro _ h6 ⟨e6, n6, r1, r2, r3, rfl, m6, hn6⟩
      have Q6 := (e6.2 _ (at_lt QA)).trans QA
      have lQ6 := at_lt Q6
      have z1 := m6.o.one
      have z2 := m6.p.one
      have z3 := m6.b.one
      have f6 := e6.1
      have heN := (he'.trans (eA.mono f1)).trans (e6.mono (by omega))
      by_cases hmay : chMay n c = 0
      · have hmn : (chMay n c != 0) = false := by simp [hmay]
        simp only [core, zrA, zrS, zrM, zrL, zrE, reduceCtorEq, zrD, ziE, ziL, ziN, mpV, hn, g2, g3, g4, g6, g27, g28, g29, Q6, lQ6, z1, z2, z3, hwi, hmn]
        have hn7 := hn6 hmay
        subst hn7
        refine ih _ _ ⟨chMade n c, r1, r2, r3, by rw [applyC_succ hx hap, if_pos hmay], at_put_same _ lQ6, ?_, heN.put _ (by omega), by rw [n_put]; omega, ?_⟩
        · refine ⟨m6.o.lift fun b hb _ => ?_, m6.p.lift fun b hb _ => ?_, m6.b.lift fun b hb _ => ?_⟩
          all_goals (have hb' : hp.n ≤ b ∧ b ≠ q := by rcases hb with hb | hb <;> omega)
          all_goals exact ⟨at_put_ne _ (Ne.symm hb'.2), hb'⟩
        · simp only [core, zrA, zrS, zrM, zrL, zrE, reduceCtorEq, zrD, ziE, ziL, ziN, hn, g2, g3, g4, g6, g27, g28, g29]
      · have hmn : (chMay n c != 0) = true := by simp [hmay]
        have Z6 := (heN.2 _ (by omega)).trans Z0
        have lZ6 := at_lt Z6
        have hqz : ¬ q = H.n + 2 := by omega
        have hD : applyD m x = (map0, chMay n c) := by
          unfold applyD
          rw [if_neg (fun hh => hh.elim hM (fun h => h hE)), applyC_err hx hap hmay, if_neg hmay]
        simp only [core, zrA, zrS, zrM, zrL, zrE, reduceCtorEq, zrD, ziE, ziL, ziN, mpV, hn, g2, g3, g4, g6, g27, g28, g29, Q6, lQ6, z1, z2, z3, hmn, Z6, lZ6, hqz]
        rw [hD]
        exact ⟨((EP.trans (heN.mono (by omega))).put _ (by omega)).put _ (by omega), _, _, _, rfl, at0⟩
    · rintro t h hc ⟨n, v1, v2, v3, hap, WQ, own, he', lh4, hn, g2, g3, g4, g6, g27, g28, g29⟩
      rw [hN, List.take_length] at hap
      have EH : Ext H.n H h := EP.trans (he'.mono (by omega))
      have ZH := (he'.2 _ (by omega)).trans Z0
      have CH := (he'.2 _ lC).trans C0
      have LCH := ld_at (T := tabOf Try.prog NT0) CH
      have lCH := at_lt CH
      have lZH := at_lt ZH
      have LQ := ld_at (T := tabOf Try.prog NT0) WQ
      have lQ := at_lt WQ
      have y1 := own.o.one
      have y2 := own.p.one
      have y3 := own.b.one
      have hne : ¬ q = H.n + 2 := by omega
      have hne1 : ¬ q = H.n + 1 := by omega
      have hD : applyD m x = ({ n with epoch := x.epoch }, 0) := by
        unfold applyD
        rw [if_neg (fun hh => hh.elim hM (fun h => h hE)), hap, if_pos rfl]
      simp only [core, zrA, zrS, zrM, zrL, zrE, reduceCtorEq, zrD, ziE, ziL, ziN, hn, g2, g3, g4, g6, g27, g28, g29, hc, WQ, LQ, lQ, ZH, lZH, LCH, lCH, hne, hne1, y1, y2, y3, c1]
      rw [hD]
      refine ⟨(EH.put _ (by omega)).put _ (by omega), v1, v2, v3, rfl, ⟨own.o.lift fun b hb _ => ?_, own.p.lift fun b hb _ => ?_, own.b.lift fun b hb _ => ?_⟩⟩
      all_goals exact ⟨by rw [at_put_ne _ (by omega), at_put_ne _ (by omega)], by omega⟩
    · refine ⟨m, ro, rp, rb, rfl, W4, mt4, E4, Nat.le_refl _, ?_⟩
      simp only [core, zrA, zrS, zrM, zrL, zrE, reduceCtorEq, zrD, ziE, ziL, ziN]
      rfl
  · have hA : applyD m x = (map0, 126) := by unfold applyD; rw [if_pos (.inr hE)]
    by_cases hw : IntKind.i64.wrap (x.epoch - 1) = m.epoch
    · have hEe : (m.epoch != m.epoch) = false := by simp
      have hEl : x.epoch < m.epoch := by
        rw [IntKind.wrap_i64] at hw
        omega
      simp only [core, zrA, zrS, zrM, zrL, zrE, reduceCtorEq, zrD, ziE, ziL, ziN, Try.ntmps23, mpV, incV, o1, o2, o3, c1, ← hhp, LP, LC, lP, lC, Z0, lZ, hw, hEe, hEl]
      rw [hA]
      exact ⟨EP.put _ (by omega), _, _, _, rfl, at0⟩
    · have hEe : (IntKind.i64.wrap (x.epoch - 1) != m.epoch) = true := by simp [hw]
      simp only [core, zrA, zrS, zrM, zrL, zrE, reduceCtorEq, zrD, ziE, ziL, ziN, Try.ntmps23, mpV, incV, o1, o2, o3, c1, ← hhp, LP, LC, lP, lC, Z0, lZ, hEe]
      rw [hA]
      exact ⟨EP.put _ (by omega), _, _, _, rfl, at0⟩
end Go.Proofs.Ytmfhagahkkhbeaa.Ex
end

section

set_option linter.unusedSimpArgs false
set_option linter.unusedVariables false
set_option maxRecDepth 10000
set_option maxHeartbeats 4000000
namespace Go.Proofs.Ytmfhagahkkhbeaa.Ex
open Go
end Go.Proofs.Ytmfhagahkkhbeaa.Ex
end

section

set_option linter.unusedSimpArgs false
set_option linter.unusedVariables false
set_option maxRecDepth 10000
namespace Go.Proofs.Ytmfhagahkkhbeaa.Ex
open Go
section
variable {P : Program}
theorem pur_equalIn_bool (d : Nat) (t : TypeId) (a b : Bool) (h : P.underlying t = some .bool) : pur P (Op.equalIn (d + 1) t (.bool a) (.bool b)) = some (.ok (a == b)) := by
  simp only [Op.equalIn, pur_bind, pur_und h]
  simp [pur_pure]
end
section
theorem pur_eq_osd (a0 : Bool) (a1 : Bool) (a2 : Int) (a3 : Int) (a4 : Int) (a5 : Int) (b0 : Bool) (b1 : Bool) (b2 : Int) (b3 : Int) (b4 : Int) (b5 : Int) : pur Try.prog (Op.equal 57 (.agg #[.bool a0, .bool a1, .int .i64 a2, .int .i64 a3, .int .i64 a4, .int .i64 a5]) (.agg #[.bool b0, .bool b1, .int .i64 b2, .int .i64 b3, .int .i64 b4, .int .i64 b5])) = some (.ok ((a0 == b0) && ((a1 == b1) && ((a2 == b2) && ((a3 == b3) && ((a4 == b4) && (a5 == b5))))))) := by
  show pur Try.prog (Op.equalIn (9999 + 1) 57 (.agg #[.bool a0, .bool a1, .int .i64 a2, .int .i64 a3, .int .i64 a4, .int .i64 a5]) (.agg #[.bool b0, .bool b1, .int .i64 b2, .int .i64 b3, .int .i64 b4, .int .i64 b5])) = _
  rw [pur_equalIn_struct 9999 57 _ _ (by kernel_rfl) (by kernel_rfl)]
  obtain ⟨f0, f1, f2, f3, f4, f5, hf, n0, n1, n2, n3, n4, n5, t0, t1, t2, t3, t4, t5, z0, z1, z2, z3, z4, z5⟩ : ∃ f0 f1 f2 f3 f4 f5 : Field, (Try.prog.fieldsOf 57).toList = [f0, f1, f2, f3, f4, f5] ∧ f0.name ≠ "_" ∧ f1.name ≠ "_" ∧ f2.name ≠ "_" ∧ f3.name ≠ "_" ∧ f4.name ≠ "_" ∧ f5.name ≠ "_" ∧ f0.type = 4 ∧ f1.type = 4 ∧ f2.type = 3 ∧ f3.type = 3 ∧ f4.type = 3 ∧ f5.type = 3 ∧ f0.offset = 0 ∧ f1.offset = 1 ∧ f2.offset = 2 ∧ f3.offset = 3 ∧ f4.offset = 4 ∧ f5.offset = 5 := by
    unfold Program.fieldsOf
    rw [Try.underlying57]
    exact ⟨_, _, _, _, _, _, rfl, by decide, by decide, by decide, by decide, by decide, by decide, rfl, rfl, rfl, rfl, rfl, rfl, rfl, rfl, rfl, rfl, rfl, rfl⟩
  rw [hf]
  have p0 : ∀ (a0 : Bool) (a1 : Bool) (a2 : Int) (a3 : Int) (a4 : Int) (a5 : Int), pur Try.prog (part 4 #[.bool a0, .bool a1, .int .i64 a2, .int .i64 a3, .int .i64 a4, .int .i64 a5] 0) = some (.ok (.bool a0)) := fun a0 a1 a2 a3 a4 a5 => by kernel_rfl
  have p1 : ∀ (a0 : Bool) (a1 : Bool) (a2 : Int) (a3 : Int) (a4 : Int) (a5 : Int), pur Try.prog (part 4 #[.bool a0, .bool a1, .int .i64 a2, .int .i64 a3, .int .i64 a4, .int .i64 a5] 1) = some (.ok (.bool a1)) := fun a0 a1 a2 a3 a4 a5 => by kernel_rfl
  have p2 : ∀ (a0 : Bool) (a1 : Bool) (a2 : Int) (a3 : Int) (a4 : Int) (a5 : Int), pur Try.prog (part 3 #[.bool a0, .bool a1, .int .i64 a2, .int .i64 a3, .int .i64 a4, .int .i64 a5] 2) = some (.ok (.int .i64 a2)) := fun a0 a1 a2 a3 a4 a5 => by kernel_rfl
  have p3 : ∀ (a0 : Bool) (a1 : Bool) (a2 : Int) (a3 : Int) (a4 : Int) (a5 : Int), pur Try.prog (part 3 #[.bool a0, .bool a1, .int .i64 a2, .int .i64 a3, .int .i64 a4, .int .i64 a5] 3) = some (.ok (.int .i64 a3)) := fun a0 a1 a2 a3 a4 a5 => by kernel_rfl
  have p4 : ∀ (a0 : Bool) (a1 : Bool) (a2 : Int) (a3 : Int) (a4 : Int) (a5 : Int), pur Try.prog (part 3 #[.bool a0, .bool a1, .int .i64 a2, .int .i64 a3, .int .i64 a4, .int .i64 a5] 4) = some (.ok (.int .i64 a4)) := fun a0 a1 a2 a3 a4 a5 => by kernel_rfl
  have p5 : ∀ (a0 : Bool) (a1 : Bool) (a2 : Int) (a3 : Int) (a4 : Int) (a5 : Int), pur Try.prog (part 3 #[.bool a0, .bool a1, .int .i64 a2, .int .i64 a3, .int .i64 a4, .int .i64 a5] 5) = some (.ok (.int .i64 a5)) := fun a0 a1 a2 a3 a4 a5 => by kernel_rfl
  have qi : ∀ x y : Int, pur Try.prog (Op.equalIn 9999 3 (.int .i64 x) (.int .i64 y)) = some (.ok (x == y)) := fun x y => pur_equalIn_int 9998 3 .i64 .i64 x y Try.underlying3
  have qb : ∀ x y : Bool, pur Try.prog (Op.equalIn 9999 4 (.bool x) (.bool y)) = some (.ok (x == y)) := fun x y => pur_equalIn_bool 9998 4 x y Try.underlying4
  simp only [Op.eqFields, n0, t0, z0, p0, n1, t1, z1, p1, n2, t2, z2, p2, n3, t3, z3, p3, n4, t4, z4, p4, n5, t5, z5, p5, ne_eq, not_false_eq_true, if_true, pur_bind, qi, qb, pur_ite, pur_pure]
  cases (a0 == b0) <;> cases (a1 == b1) <;> cases (a2 == b2) <;> cases (a3 == b3) <;> cases (a4 == b4) <;> cases (a5 == b5) <;> rfl
variable {d : Option Tmp} {ty : TypeId} {ps : String} {af : Array Edge} {g : Option (Nat × Bool)} {f : TypeId} {t : TM} {h : AH}
theorem a_neosd {i j : Nat} {a0 : Bool} {a1 : Bool} {a2 : Int} {a3 : Int} {a4 : Int} {a5 : Int} {b0 : Bool} {b1 : Bool} {b2 : Int} {b3 : Int} {b4 : Int} {b5 : Int} (hi : t.get i = .agg [.lit (.bool a0), .lit (.bool a1), .lit (.int .i64 a2), .lit (.int .i64 a3), .lit (.int .i64 a4), .lit (.int .i64 a5)]) (hj : t.get j = .agg [.lit (.bool b0), .lit (.bool b1), .lit (.int .i64 b2), .lit (.int .i64 b3), .lit (.int .i64 b4), .lit (.int .i64 b5)]) :
    aBin Try.prog (tabOf Try.prog NT0) ⟨d, .binOp .neq 57 (.tmp i) (.tmp j) f, ty, ps, af, g⟩ t h .neq 57 (.tmp i) (.tmp j) = some (.val (.lit (.bool (!((a0 == b0) && ((a1 == b1) && ((a2 == b2) && ((a3 == b3) && ((a4 == b4) && (a5 == b5))))))))), h) := by
  have e1 : evalA t (.tmp i) = some (.agg [.lit (.bool a0), .lit (.bool a1), .lit (.int .i64 a2), .lit (.int .i64 a3), .lit (.int .i64 a4), .lit (.int .i64 a5)]) := by rw [ev_tmp, hi]
  have e2 : evalA t (.tmp j) = some (.agg [.lit (.bool b0), .lit (.bool b1), .lit (.int .i64 b2), .lit (.int .i64 b3), .lit (.int .i64 b4), .lit (.int .i64 b5)]) := by rw [ev_tmp, hj]
  have l1 : litEnv t (.tmp i) = .agg #[.bool a0, .bool a1, .int .i64 a2, .int .i64 a3, .int .i64 a4, .int .i64 a5] := by unfold litEnv; rw [e1]; rfl
  have l2 : litEnv t (.tmp j) = .agg #[.bool b0, .bool b1, .int .i64 b2, .int .i64 b3, .int .i64 b4, .int .i64 b5] := by unfold litEnv; rw [e2]; rfl
  have hl : litOp Try.prog ⟨d, .binOp .neq 57 (.tmp i) (.tmp j) f, ty, ps, af, g⟩ t = some (.val (.lit (.bool (!((a0 == b0) && ((a1 == b1) && ((a2 == b2) && ((a3 == b3) && ((a4 == b4) && (a5 == b5)))))))))) := by
    unfold litOp
    rw [if_pos (by
      show (notSelect _ && litAll t [.tmp i, .tmp j]) = true
      simp only [litAll, e1, e2]
      rfl)]
    have : pur Try.prog (execOp (litEnv t) ⟨d, .binOp .neq 57 (.tmp i) (.tmp j) f, ty, ps, af, g⟩) = some (.ok (.value (.bool (!((a0 == b0) && ((a1 == b1) && ((a2 == b2) && ((a3 == b3) && ((a4 == b4) && (a5 == b5)))))))))) := by
      show pur Try.prog (do pure (Next.value (← (do eqGuard .neq 57 (.tmp i) (.tmp j) (litEnv t (.tmp i)) (litEnv t (.tmp j)); binOp .neq 57 (litEnv t (.tmp i)) (litEnv t (.tmp j)))))) = _
      rw [l1, l2]
      have hg : pur Try.prog (eqGuard .neq 57 (.tmp i) (.tmp j) (.agg #[.bool a0, .bool a1, .int .i64 a2, .int .i64 a3, .int .i64 a4, .int .i64 a5]) (.agg #[.bool b0, .bool b1, .int .i64 b2, .int .i64 b3, .int .i64 b4, .int .i64 b5])) = some (.ok ()) := by
        have hm : Try.prog.eqGuardType Try.prog.depth 57 = false := by kernel_rfl
        simp [eqGuard, pur_bind, pur_program, hm, pur_pure]
      have hb : pur Try.prog (binOp .neq 57 (.agg #[.bool a0, .bool a1, .int .i64 a2, .int .i64 a3, .int .i64 a4, .int .i64 a5]) (.agg #[.bool b0, .bool b1, .int .i64 b2, .int .i64 b3, .int .i64 b4, .int .i64 b5])) = some (.ok (.bool (!((a0 == b0) && ((a1 == b1) && ((a2 == b2) && ((a3 == b3) && ((a4 == b4) && (a5 == b5))))))))) := by
        show pur Try.prog (do pure (Value.bool (!(← Op.equal 57 (.agg #[.bool a0, .bool a1, .int .i64 a2, .int .i64 a3, .int .i64 a4, .int .i64 a5]) (.agg #[.bool b0, .bool b1, .int .i64 b2, .int .i64 b3, .int .i64 b4, .int .i64 b5]))))) = _
        simp only [pur_bind, pur_eq_osd, pur_pure]
      simp only [pur_bind, hg, hb, pur_pure]
    rw [this]
    rfl
  unfold aBin
  rw [e1, e2]
  show orLit _ _ _ _ _ = _
  unfold orLit
  rw [hl]
def neMosd (h : AH) (r : AR) : AV → AV → AR
  | .agg [.lit (.bool a0), .lit (.bool a1), .lit (.int .i64 a2), .lit (.int .i64 a3), .lit (.int .i64 a4), .lit (.int .i64 a5)], .agg [.lit (.bool b0), .lit (.bool b1), .lit (.int .i64 b2), .lit (.int .i64 b3), .lit (.int .i64 b4), .lit (.int .i64 b5)] => some (.val (.lit (.bool (!((a0 == b0) && ((a1 == b1) && ((a2 == b2) && ((a3 == b3) && ((a4 == b4) && (a5 == b5))))))))), h)
  | _, _ => r
theorem neMosd_eq {r : AR} {a0 : Bool} {a1 : Bool} {a2 : Int} {a3 : Int} {a4 : Int} {a5 : Int} {b0 : Bool} {b1 : Bool} {b2 : Int} {b3 : Int} {b4 : Int} {b5 : Int} : neMosd h r (.agg [.lit (.bool a0), .lit (.bool a1), .lit (.int .i64 a2), .lit (.int .i64 a3), .lit (.int .i64 a4), .lit (.int .i64 a5)]) (.agg [.lit (.bool b0), .lit (.bool b1), .lit (.int .i64 b2), .lit (.int .i64 b3), .lit (.int .i64 b4), .lit (.int .i64 b5)]) = some (.val (.lit (.bool (!((a0 == b0) && ((a1 == b1) && ((a2 == b2) && ((a3 == b3) && ((a4 == b4) && (a5 == b5))))))))), h) := rfl
theorem a_neMosd {i j : Nat} : aBinR Try.prog (tabOf Try.prog NT0) ⟨d, .binOp .neq 57 (.tmp i) (.tmp j) f, ty, ps, af, g⟩ t h .neq 57 (.tmp i) (.tmp j) = neMosd h (aBinQ Try.prog (tabOf Try.prog NT0) ⟨d, .binOp .neq 57 (.tmp i) (.tmp j) f, ty, ps, af, g⟩ t h .neq 57 (.tmp i) (.tmp j)) (t.get i) (t.get j) := by
  unfold neMosd
  split
  · rename_i h1 h2
    exact a_neosd h1 h2
  · rfl
end
section
theorem pur_eq_pool (a0 : Int) (a1 : Int) (a2 : Int) (a3 : Int) (b0 : Int) (b1 : Int) (b2 : Int) (b3 : Int) : pur Try.prog (Op.equal 52 (.agg #[.int .i64 a0, .int .i64 a1, .int .i64 a2, .int .i64 a3]) (.agg #[.int .i64 b0, .int .i64 b1, .int .i64 b2, .int .i64 b3])) = some (.ok ((a0 == b0) && ((a1 == b1) && ((a2 == b2) && (a3 == b3))))) := by
  show pur Try.prog (Op.equalIn (9999 + 1) 52 (.agg #[.int .i64 a0, .int .i64 a1, .int .i64 a2, .int .i64 a3]) (.agg #[.int .i64 b0, .int .i64 b1, .int .i64 b2, .int .i64 b3])) = _
  rw [pur_equalIn_struct 9999 52 _ _ (by kernel_rfl) (by kernel_rfl)]
  obtain ⟨f0, f1, f2, f3, hf, n0, n1, n2, n3, t0, t1, t2, t3, z0, z1, z2, z3⟩ : ∃ f0 f1 f2 f3 : Field, (Try.prog.fieldsOf 52).toList = [f0, f1, f2, f3] ∧ f0.name ≠ "_" ∧ f1.name ≠ "_" ∧ f2.name ≠ "_" ∧ f3.name ≠ "_" ∧ f0.type = 3 ∧ f1.type = 3 ∧ f2.type = 3 ∧ f3.type = 3 ∧ f0.offset = 0 ∧ f1.offset = 1 ∧ f2.offset = 2 ∧ f3.offset = 3 := by
    unfold Program.fieldsOf
    rw [Try.underlying52]
    exact ⟨_, _, _, _, rfl, by decide, by decide, by decide, by decide, rfl, rfl, rfl, rfl, rfl, rfl, rfl, rfl⟩
  rw [hf]
  have p0 : ∀ (a0 : Int) (a1 : Int) (a2 : Int) (a3 : Int), pur Try.prog (part 3 #[.int .i64 a0, .int .i64 a1, .int .i64 a2, .int .i64 a3] 0) = some (.ok (.int .i64 a0)) := fun a0 a1 a2 a3 => by kernel_rfl
  have p1 : ∀ (a0 : Int) (a1 : Int) (a2 : Int) (a3 : Int), pur Try.prog (part 3 #[.int .i64 a0, .int .i64 a1, .int .i64 a2, .int .i64 a3] 1) = some (.ok (.int .i64 a1)) := fun a0 a1 a2 a3 => by kernel_rfl
  have p2 : ∀ (a0 : Int) (a1 : Int) (a2 : Int) (a3 : Int), pur Try.prog (part 3 #[.int .i64 a0, .int .i64 a1, .int .i64 a2, .int .i64 a3] 2) = some (.ok (.int .i64 a2)) := fun a0 a1 a2 a3 => by kernel_rfl
  have p3 : ∀ (a0 : Int) (a1 : Int) (a2 : Int) (a3 : Int), pur Try.prog (part 3 #[.int .i64 a0, .int .i64 a1, .int .i64 a2, .int .i64 a3] 3) = some (.ok (.int .i64 a3)) := fun a0 a1 a2 a3 => by kernel_rfl
  have qi : ∀ x y : Int, pur Try.prog (Op.equalIn 9999 3 (.int .i64 x) (.int .i64 y)) = some (.ok (x == y)) := fun x y => pur_equalIn_int 9998 3 .i64 .i64 x y Try.underlying3
  have qb : ∀ x y : Bool, pur Try.prog (Op.equalIn 9999 4 (.bool x) (.bool y)) = some (.ok (x == y)) := fun x y => pur_equalIn_bool 9998 4 x y Try.underlying4
  simp only [Op.eqFields, n0, t0, z0, p0, n1, t1, z1, p1, n2, t2, z2, p2, n3, t3, z3, p3, ne_eq, not_false_eq_true, if_true, pur_bind, qi, qb, pur_ite, pur_pure]
  cases (a0 == b0) <;> cases (a1 == b1) <;> cases (a2 == b2) <;> cases (a3 == b3) <;> rfl
variable {d : Option Tmp} {ty : TypeId} {ps : String} {af : Array Edge} {g : Option (Nat × Bool)} {f : TypeId} {t : TM} {h : AH}
theorem a_nepool {i j : Nat} {a0 : Int} {a1 : Int} {a2 : Int} {a3 : Int} {b0 : Int} {b1 : Int} {b2 : Int} {b3 : Int} (hi : t.get i = .agg [.lit (.int .i64 a0), .lit (.int .i64 a1), .lit (.int .i64 a2), .lit (.int .i64 a3)]) (hj : t.get j = .agg [.lit (.int .i64 b0), .lit (.int .i64 b1), .lit (.int .i64 b2), .lit (.int .i64 b3)]) :
    aBin Try.prog (tabOf Try.prog NT0) ⟨d, .binOp .neq 52 (.tmp i) (.tmp j) f, ty, ps, af, g⟩ t h .neq 52 (.tmp i) (.tmp j) = some (.val (.lit (.bool (!((a0 == b0) && ((a1 == b1) && ((a2 == b2) && (a3 == b3))))))), h) := by
  have e1 : evalA t (.tmp i) = some (.agg [.lit (.int .i64 a0), .lit (.int .i64 a1), .lit (.int .i64 a2), .lit (.int .i64 a3)]) := by rw [ev_tmp, hi]
  have e2 : evalA t (.tmp j) = some (.agg [.lit (.int .i64 b0), .lit (.int .i64 b1), .lit (.int .i64 b2), .lit (.int .i64 b3)]) := by rw [ev_tmp, hj]
  have l1 : litEnv t (.tmp i) = .agg #[.int .i64 a0, .int .i64 a1, .int .i64 a2, .int .i64 a3] := by unfold litEnv; rw [e1]; rfl
  have l2 : litEnv t (.tmp j) = .agg #[.int .i64 b0, .int .i64 b1, .int .i64 b2, .int .i64 b3] := by unfold litEnv; rw [e2]; rfl
  have hl : litOp Try.prog ⟨d, .binOp .neq 52 (.tmp i) (.tmp j) f, ty, ps, af, g⟩ t = some (.val (.lit (.bool (!((a0 == b0) && ((a1 == b1) && ((a2 == b2) && (a3 == b3)))))))) := by
    unfold litOp
    rw [if_pos (by
      show (notSelect _ && litAll t [.tmp i, .tmp j]) = true
      simp only [litAll, e1, e2]
      rfl)]
    have : pur Try.prog (execOp (litEnv t) ⟨d, .binOp .neq 52 (.tmp i) (.tmp j) f, ty, ps, af, g⟩) = some (.ok (.value (.bool (!((a0 == b0) && ((a1 == b1) && ((a2 == b2) && (a3 == b3)))))))) := by
      show pur Try.prog (do pure (Next.value (← (do eqGuard .neq 52 (.tmp i) (.tmp j) (litEnv t (.tmp i)) (litEnv t (.tmp j)); binOp .neq 52 (litEnv t (.tmp i)) (litEnv t (.tmp j)))))) = _
      rw [l1, l2]
      have hg : pur Try.prog (eqGuard .neq 52 (.tmp i) (.tmp j) (.agg #[.int .i64 a0, .int .i64 a1, .int .i64 a2, .int .i64 a3]) (.agg #[.int .i64 b0, .int .i64 b1, .int .i64 b2, .int .i64 b3])) = some (.ok ()) := by
        have hm : Try.prog.eqGuardType Try.prog.depth 52 = false := by kernel_rfl
        simp [eqGuard, pur_bind, pur_program, hm, pur_pure]
      have hb : pur Try.prog (binOp .neq 52 (.agg #[.int .i64 a0, .int .i64 a1, .int .i64 a2, .int .i64 a3]) (.agg #[.int .i64 b0, .int .i64 b1, .int .i64 b2, .int .i64 b3])) = some (.ok (.bool (!((a0 == b0) && ((a1 == b1) && ((a2 == b2) && (a3 == b3))))))) := by
        show pur Try.prog (do pure (Value.bool (!(← Op.equal 52 (.agg #[.int .i64 a0, .int .i64 a1, .int .i64 a2, .int .i64 a3]) (.agg #[.int .i64 b0, .int .i64 b1, .int .i64 b2, .int .i64 b3]))))) = _
        simp only [pur_bind, pur_eq_pool, pur_pure]
      simp only [pur_bind, hg, hb, pur_pure]
    rw [this]
    rfl
  unfold aBin
  rw [e1, e2]
  show orLit _ _ _ _ _ = _
  unfold orLit
  rw [hl]
def neMpool (h : AH) (r : AR) : AV → AV → AR
  | .agg [.lit (.int .i64 a0), .lit (.int .i64 a1), .lit (.int .i64 a2), .lit (.int .i64 a3)], .agg [.lit (.int .i64 b0), .lit (.int .i64 b1), .lit (.int .i64 b2), .lit (.int .i64 b3)] => some (.val (.lit (.bool (!((a0 == b0) && ((a1 == b1) && ((a2 == b2) && (a3 == b3))))))), h)
  | _, _ => r
theorem neMpool_eq {r : AR} {a0 : Int} {a1 : Int} {a2 : Int} {a3 : Int} {b0 : Int} {b1 : Int} {b2 : Int} {b3 : Int} : neMpool h r (.agg [.lit (.int .i64 a0), .lit (.int .i64 a1), .lit (.int .i64 a2), .lit (.int .i64 a3)]) (.agg [.lit (.int .i64 b0), .lit (.int .i64 b1), .lit (.int .i64 b2), .lit (.int .i64 b3)]) = some (.val (.lit (.bool (!((a0 == b0) && ((a1 == b1) && ((a2 == b2) && (a3 == b3))))))), h) := rfl
theorem a_neMpool {i j : Nat} : aBinR Try.prog (tabOf Try.prog NT0) ⟨d, .binOp .neq 52 (.tmp i) (.tmp j) f, ty, ps, af, g⟩ t h .neq 52 (.tmp i) (.tmp j) = neMpool h (aBinQ Try.prog (tabOf Try.prog NT0) ⟨d, .binOp .neq 52 (.tmp i) (.tmp j) f, ty, ps, af, g⟩ t h .neq 52 (.tmp i) (.tmp j)) (t.get i) (t.get j) := by
  unfold neMpool
  split
  · rename_i h1 h2
    exact a_nepool h1 h2
  · rfl
end
theorem eqOsd {x y : OsdD} : ((x.ex == y.ex) && ((x.up == y.up) && ((x.weight == y.weight) && ((x.boot == y.boot) && ((x.upFrom == y.upFrom) && (x.upThru == y.upThru)))))) = decide (x = y) := by
  obtain ⟨a, b, c, d, e, f⟩ := x
  obtain ⟨a', b', c', d', e', f'⟩ := y
  rw [Bool.eq_iff_iff]
  simp
theorem eqPool {x y : PoolD} : ((x.id == y.id) && ((x.size == y.size) && ((x.min == y.min) && (x.pgs == y.pgs)))) = decide (x = y) := by
  obtain ⟨a, b, c, d⟩ := x
  obtain ⟨a', b', c', d'⟩ := y
  rw [Bool.eq_iff_iff]
  simp
end Go.Proofs.Ytmfhagahkkhbeaa.Ex
end

section

set_option linter.unusedSimpArgs false
set_option linter.unusedVariables false
set_option maxRecDepth 10000
set_option maxHeartbeats 4000000
namespace Go.Proofs.Ytmfhagahkkhbeaa.Ex
open Go
theorem take_eq_succ {α : Type} {xs ys : List α} {i : Nat} {x y : α} (hx : xs[i]? = some x) (hy : ys[i]? = some y) (h : xs.take i = ys.take i) (he : x = y) : xs.take (i + 1) = ys.take (i + 1) := by
  rw [List.take_add_one, List.take_add_one, hx, hy, h, he]
theorem ne_of_get {α : Type} {xs ys : List α} {i : Nat} {x y : α} (hx : xs[i]? = some x) (hy : ys[i]? = some y) (he : x ≠ y) : ¬ xs = ys := fun hh => by
  subst hh
  rw [hx] at hy
  exact he (Option.some.inj hy)
theorem equalO_x {F G : Nat → Prop} {H : AH} {u v : AV} {xs ys : List OsdD} (hu : IsSl ROsd F H u xs) (hv : IsSl ROsd G H v ys) (hl : Sm 40 xs) :
    WC Try.prog (tabOf Try.prog NT0) S0 29 [u, v] H fun r h' => h' = H ∧ r = .lit (.bool (decide (xs = ys))) := by
  refine WC_fn Try.func29 rfl rfl ?_
  unfold Sm at hl
  have s1 := hu.isSl
  have s2 := hu.lenD
  have s3 := hv.isSl
  have s4 := hv.lenD
  simp only [core, zrA, zrS, zrM, zrL, zrE, reduceCtorEq, zrD, ziE, ziL, ziN, Try.ntmps29, s1, s2, s3, s4]
  refine ⟨fun he => ?_, fun he => ?_⟩
  · have : ¬ xs = ys := fun hh => by subst hh; simp at he
    rw [decide_eq_false this]
  · have he : xs.length = ys.length := by simp at he; omega
    refine WB_for xs.length (fun i t h => h = H ∧ (xs.take i = ys.take i) ∧ t.n = 26 ∧ t.get 0 = u ∧ t.get 1 = v ∧ t.get 12 = .lit (.int .i64 xs.length) ∧ t.get 13 = .lit (.int .i64 i)) ?_ ?_ _ _ ?_
    · rintro i t h hlt hc ⟨rfl, hx, hn, g0, g1, g12, g13⟩ ih
      have hlt2 : i < ys.length := by omega
      obtain ⟨x, hx1⟩ : ∃ x, xs[i]? = some x := ⟨_, List.getElem?_eq_getElem hlt⟩
      obtain ⟨y, hy1⟩ : ∃ y, ys[i]? = some y := ⟨_, List.getElem?_eq_getElem hlt2⟩
      obtain ⟨c1, hc1, l1, l1'⟩ := hu.at (T := tabOf Try.prog NT0) ROsd_z hx1
      obtain ⟨rfl, -⟩ := ROsd_is.1 hc1
      obtain ⟨c2, hc2, l2, l2'⟩ := hv.at (T := tabOf Try.prog NT0) ROsd_z hy1
      obtain ⟨rfl, -⟩ := ROsd_is.1 hc2
      have hw := wrap_succ hlt (by omega)
      by_cases hxy : x = y
      · have hd : decide (x = y) = true := decide_eq_true hxy
        simp only [core, zrA, zrS, zrM, zrL, zrE, reduceCtorEq, zrD, ziE, ziL, ziN, s1, s2, s3, s4, hn, g0, g1, g12, g13, hlt, hlt2, hc, hw]
        rw [WB_regionD [0, 1, 2, 3, 4, 5, 6, 7, 8] 1205237335491016659828736 (by kernel_rfl)]
        repeat ((with_reducible refine WDM_cons ?_; simp only [dw1]; try simp only [dw2, zrA, zrM, zrR, zrO, zrE]); simp only [core, zrA, zrS, zrM, zrL, zrE, reduceCtorEq, zrD, ziE, ziL, ziN, cored, s1, s2, s3, s4, hn, g0, g1, g12, g13, hlt, hlt2, hc, l1, l1', l2, l2', hw, a_neMosd, neMosd_eq, eqOsd, hd])
        refine ih _ _ ⟨rfl, take_eq_succ hx1 hy1 hx hxy, ?_⟩
        simp only [core, zrA, zrS, zrM, zrL, zrE, reduceCtorEq, zrD, ziE, ziL, ziN, hn, g0, g1, g12, g13]
      · have hd : decide (x = y) = false := decide_eq_false hxy
        simp only [core, zrA, zrS, zrM, zrL, zrE, reduceCtorEq, zrD, ziE, ziL, ziN, s1, s2, s3, s4, hn, g0, g1, g12, g13, hlt, hlt2, hc, hw]
        rw [WB_regionD [0, 1, 2, 3, 4, 5, 6, 7, 8] 1205237335491016659828736 (by kernel_rfl)]
        repeat ((with_reducible refine WDM_cons ?_; simp only [dw1]; try simp only [dw2, zrA, zrM, zrR, zrO, zrE]); simp only [core, zrA, zrS, zrM, zrL, zrE, reduceCtorEq, zrD, ziE, ziL, ziN, cored, s1, s2, s3, s4, hn, g0, g1, g12, g13, hlt, hlt2, hc, l1, l1', l2, l2', hw, a_neMosd, neMosd_eq, eqOsd, hd])
        rw [decide_eq_false (ne_of_get hx1 hy1 hxy)]
    · rintro t h hc ⟨rfl, hx, hn, g0, g1, g12, g13⟩
      simp only [core, zrA, zrS, zrM, zrL, zrE, reduceCtorEq, zrD, ziE, ziL, ziN, s1, s2, hn, g0, g1, g12, g13, hc]
      rw [List.take_length, he, List.take_length] at hx
      rw [decide_eq_true hx]
    · simp only [core, zrA, zrS, zrM, zrL, zrE, reduceCtorEq, zrD, ziE, ziL, ziN]
      simp
theorem equalP_x {F G : Nat → Prop} {H : AH} {u v : AV} {xs ys : List PoolD} (hu : IsSl RPool F H u xs) (hv : IsSl RPool G H v ys) (hl : Sm 32 xs) :
    WC Try.prog (tabOf Try.prog NT0) S0 30 [u, v] H fun r h' => h' = H ∧ r = .lit (.bool (decide (xs = ys))) := by
  refine WC_fn Try.func30 rfl rfl ?_
  unfold Sm at hl
  have s1 := hu.isSl
  have s2 := hu.lenD
  have s3 := hv.isSl
  have s4 := hv.lenD
  simp only [core, zrA, zrS, zrM, zrL, zrE, reduceCtorEq, zrD, ziE, ziL, ziN, Try.ntmps30, s1, s2, s3, s4]
  refine ⟨fun he => ?_, fun he => ?_⟩
  · have : ¬ xs = ys := fun hh => by subst hh; simp at he
    rw [decide_eq_false this]
  · have he : xs.length = ys.length := by simp at he; omega
    refine WB_for xs.length (fun i t h => h = H ∧ (xs.take i = ys.take i) ∧ t.n = 26 ∧ t.get 0 = u ∧ t.get 1 = v ∧ t.get 12 = .lit (.int .i64 xs.length) ∧ t.get 13 = .lit (.int .i64 i)) ?_ ?_ _ _ ?_
    · rintro i t h hlt hc ⟨rfl, hx, hn, g0, g1, g12, g13⟩ ih
      have hlt2 : i < ys.length := by omega
      obtain ⟨x, hx1⟩ : ∃ x, xs[i]? = some x := ⟨_, List.getElem?_eq_getElem hlt⟩
      obtain ⟨y, hy1⟩ : ∃ y, ys[i]? = some y := ⟨_, List.getElem?_eq_getElem hlt2⟩
      obtain ⟨c1, hc1, l1, l1'⟩ := hu.at (T := tabOf Try.prog NT0) RPool_z hx1
      obtain ⟨rfl, -⟩ := RPool_is.1 hc1
      obtain ⟨c2, hc2, l2, l2'⟩ := hv.at (T := tabOf Try.prog NT0) RPool_z hy1
      obtain ⟨rfl, -⟩ := RPool_is.1 hc2
      have hw := wrap_succ hlt (by omega)
      by_cases hxy : x = y
      · have hd : decide (x = y) = true := decide_eq_true hxy
        simp only [core, zrA, zrS, zrM, zrL, zrE, reduceCtorEq, zrD, ziE, ziL, ziN, s1, s2, s3, s4, hn, g0, g1, g12, g13, hlt, hlt2, hc, hw]
        rw [WB_regionD [0, 1, 2, 3, 4, 5, 6, 7, 8] 1205237335491016659828736 (by kernel_rfl)]
        repeat ((with_reducible refine WDM_cons ?_; simp only [dw1]; try simp only [dw2, zrA, zrM, zrR, zrO, zrE]); simp only [core, zrA, zrS, zrM, zrL, zrE, reduceCtorEq, zrD, ziE, ziL, ziN, cored, s1, s2, s3, s4, hn, g0, g1, g12, g13, hlt, hlt2, hc, l1, l1', l2, l2', hw, a_neMpool, neMpool_eq, eqPool, hd])
        refine ih _ _ ⟨rfl, take_eq_succ hx1 hy1 hx hxy, ?_⟩
        simp only [core, zrA, zrS, zrM, zrL, zrE, reduceCtorEq, zrD, ziE, ziL, ziN, hn, g0, g1, g12, g13]
      · have hd : decide (x = y) = false := decide_eq_false hxy
        simp only [core, zrA, zrS, zrM, zrL, zrE, reduceCtorEq, zrD, ziE, ziL, ziN, s1, s2, s3, s4, hn, g0, g1, g12, g13, hlt, hlt2, hc, hw]
        rw [WB_regionD [0, 1, 2, 3, 4, 5, 6, 7, 8] 1205237335491016659828736 (by kernel_rfl)]
        repeat ((with_reducible refine WDM_cons ?_; simp only [dw1]; try simp only [dw2, zrA, zrM, zrR, zrO, zrE]); simp only [core, zrA, zrS, zrM, zrL, zrE, reduceCtorEq, zrD, ziE, ziL, ziN, cored, s1, s2, s3, s4, hn, g0, g1, g12, g13, hlt, hlt2, hc, l1, l1', l2, l2', hw, a_neMpool, neMpool_eq, eqPool, hd])
        rw [decide_eq_false (ne_of_get hx1 hy1 hxy)]
    · rintro t h hc ⟨rfl, hx, hn, g0, g1, g12, g13⟩
      simp only [core, zrA, zrS, zrM, zrL, zrE, reduceCtorEq, zrD, ziE, ziL, ziN, s1, s2, hn, g0, g1, g12, g13, hc]
      rw [List.take_length, he, List.take_length] at hx
      rw [decide_eq_true hx]
    · simp only [core, zrA, zrS, zrM, zrL, zrE, reduceCtorEq, zrD, ziE, ziL, ziN]
      simp
theorem sameB_dec {x y : BktD} : sameB x y = decide (x = y) := by
  rw [Bool.eq_iff_iff, sameB_eq]
  simp
theorem eqFunc_x {F G : Nat → Prop} {H : AH} {u v : AV} {xs ys : List BktD} (hu : IsSl RBkt F H u xs) (hv : IsSl RBkt G H v ys) (hl : Sm 64 xs) (hbk : ∀ b ∈ xs, Sm 8 b.items ∧ Sm 8 b.weights) :
    WC Try.prog (tabOf Try.prog NT0) S0 31 [u, v, .fn (.func 32) [] []] H fun r h' => Ext H.n H h' ∧ r = .lit (.bool (decide (xs = ys))) := by
  refine WC_fn Try.func31 rfl rfl ?_
  unfold Sm at hl
  have s1 := hu.isSl
  have s2 := hu.lenD
  have s3 := hv.isSl
  have s4 := hv.lenD
  simp only [core, zrA, zrS, zrM, zrL, zrE, reduceCtorEq, zrD, ziE, ziL, ziN, Try.ntmps31, s1, s2, s3, s4]
  refine ⟨fun he => ?_, fun he => ?_⟩
  · have : ¬ xs = ys := fun hh => by subst hh; simp at he
    rw [decide_eq_false this]
    exact ⟨Ext.refl _ _, rfl⟩
  · have he : xs.length = ys.length := by simp at he; omega
    refine WB_for xs.length (fun i t h => Ext H.n H h ∧ (xs.take i = ys.take i) ∧ t.n = 32 ∧ t.get 0 = u ∧ t.get 1 = v ∧ t.get 2 = .fn (.func 32) [] [] ∧ t.get 15 = u ∧ t.get 16 = .lit (.int .i64 xs.length) ∧ t.get 17 = .lit (.int .i64 i)) ?_ ?_ _ _ ?_
    · rintro i t h hlt hc ⟨E, hx, hn, g0, g1, g2, g15, g16, g17⟩ ih
      have hlt2 : i < ys.length := by omega
      obtain ⟨x, hx1⟩ : ∃ x, xs[i]? = some x := ⟨_, List.getElem?_eq_getElem hlt⟩
      obtain ⟨y, hy1⟩ : ∃ y, ys[i]? = some y := ⟨_, List.getElem?_eq_getElem hlt2⟩
      obtain ⟨c1, hc1, l1, l1'⟩ := hu.atE (T := tabOf Try.prog NT0) E RBkt_z hx1
      obtain ⟨va, vw, rfl, ha, hw1, -⟩ := RBkt_is.1 hc1
      obtain ⟨hA, hhA⟩ : ∃ hA, hA = h.push (.cells [.lit (.int .i64 x.id), .lit (.int .i64 x.kind), va, vw] 50) := ⟨_, rfl⟩
      have eA : Ext h.n h hA := hhA ▸ (Ext.refl _ _).push _ (Nat.le_refl _)
      have XA : hA.at h.n = some (.cells [.lit (.int .i64 x.id), .lit (.int .i64 x.kind), va, vw] 50) := hhA ▸ at_push_n _ _
      have nA : hA.n = h.n + 1 := by rw [hhA, n_push]
      have EA := E.step eA
      obtain ⟨c2, hc2, l2, l2'⟩ := hv.atE (T := tabOf Try.prog NT0) EA RBkt_z hy1
      obtain ⟨ua, uw, rfl, ka, kw, -⟩ := RBkt_is.1 hc2
      obtain ⟨hB, hhB⟩ : ∃ hB, hB = hA.push (.cells [.lit (.int .i64 y.id), .lit (.int .i64 y.kind), ua, uw] 50) := ⟨_, rfl⟩
      have eB : Ext hA.n hA hB := hhB ▸ (Ext.refl _ _).push _ (Nat.le_refl _)
      have YB : hB.at hA.n = some (.cells [.lit (.int .i64 y.id), .lit (.int .i64 y.kind), ua, uw] 50) := hhB ▸ at_push_n _ _
      have XB := (eB.2 _ (at_lt XA)).trans XA
      have LXB := ld_at (T := tabOf Try.prog NT0) XB
      have LYB := ld_at (T := tabOf Try.prog NT0) YB
      have EB := EA.step eB
      have a1 := ha.one
      have w1 := hw1.one
      have a2 := ka.one
      have w2 := kw.one
      obtain ⟨la, lw⟩ := hbk x (List.mem_of_getElem? hx1)
      have hwi := wrap_succ hlt (by omega)
      simp only [core, zrA, zrS, zrM, zrL, zrE, reduceCtorEq, zrD, ziE, ziL, ziN, s1, s2, s3, s4, hn, g0, g1, g2, g15, g16, g17, hlt, hlt2, hc, l1, l1', a1, w1, ← hhA, l2, l2', a2, w2, ← hhB, LXB, LYB]
      refine (sameBkt_x x y (ha.ext EB (Nat.le_refl _)) (hw1.ext EB (Nat.le_refl _)) (ka.ext EB (Nat.le_refl _)) (kw.ext EB (Nat.le_refl _)) la lw).mono ?_
      rintro _ h5 ⟨e5, rfl⟩
      have E5 := EB.step e5
      rw [sameB_dec]
      by_cases hxy : x = y
      · have hd : decide (x = y) = true := decide_eq_true hxy
        simp only [core, zrA, zrS, zrM, zrL, zrE, reduceCtorEq, zrD, ziE, ziL, ziN, hn, g0, g1, g2, g15, g16, g17, hd, hwi]
        refine ih _ _ ⟨E5, take_eq_succ hx1 hy1 hx hxy, ?_⟩
        simp only [core, zrA, zrS, zrM, zrL, zrE, reduceCtorEq, zrD, ziE, ziL, ziN, hn, g0, g1, g2, g15, g16, g17]
      · have hd : decide (x = y) = false := decide_eq_false hxy
        simp only [core, zrA, zrS, zrM, zrL, zrE, reduceCtorEq, zrD, ziE, ziL, ziN, hn, g0, g1, g2, g15, g16, g17, hd, hwi]
        rw [decide_eq_false (ne_of_get hx1 hy1 hxy)]
        first | exact ⟨E5, rfl⟩ | exact E5
    · rintro t h hc ⟨E, hx, hn, g0, g1, g2, g15, g16, g17⟩
      simp only [core, zrA, zrS, zrM, zrL, zrE, reduceCtorEq, zrD, ziE, ziL, ziN, s1, s2, hn, g0, g1, g2, g15, g16, g17, hc]
      rw [List.take_length, he, List.take_length] at hx
      rw [decide_eq_true hx]
      first | exact ⟨E, rfl⟩ | exact E
    · refine ⟨Ext.refl _ _, rfl, ?_⟩
      simp only [core, zrA, zrS, zrM, zrL, zrE, reduceCtorEq, zrD, ziE, ziL, ziN]
      first | rfl | simp
def sameD (a b : MapD) : Bool := decide (a = b)
theorem same_iff {a b : MapD} : a = b ↔ a.epoch = b.epoch ∧ a.leaf = b.leaf ∧ a.osds = b.osds ∧ a.pools = b.pools ∧ a.buckets = b.buckets := by
  obtain ⟨a1, a2, a3, a4, a5⟩ := a
  obtain ⟨b1, b2, b3, b4, b5⟩ := b
  constructor
  · intro h
    cases h
    exact ⟨rfl, rfl, rfl, rfl, rfl⟩
  · intro h
    obtain ⟨h1, h2, h3, h4, h5⟩ := h
    simp only at h1 h2 h3 h4 h5
    subst h1; subst h2; subst h3; subst h4; subst h5
    rfl
theorem sameM_x {F G : Nat → Prop} {H : AH} {a b : MapD} {vo vp vb uo up ub : AV} (ha : MpAt F H a vo vp vb) (hb : MpAt G H b uo up ub) (hok : OkMp a) :
    WC Try.prog (tabOf Try.prog NT0) S0 12 [mpV a vo vp vb, mpV b uo up ub] H fun r h' => Ext H.n H h' ∧ r = .lit (.bool (sameD a b)) := by
  refine WC_fn Try.func12 rfl rfl ?_
  have o1 := ha.o.one
  have o2 := ha.p.one
  have o3 := ha.b.one
  have p1 := hb.o.one
  have p2 := hb.p.one
  have p3 := hb.b.one
  have s1 := ha.o.isSl
  have s2 := ha.p.isSl
  have s3 := ha.b.isSl
  have t1 := hb.o.isSl
  have t2 := hb.p.isSl
  have t3 := hb.b.isSl
  obtain ⟨hp, hhp⟩ : ∃ hp, hp = (H.push (mC a vo vp vb)).push (mC b uo up ub) := ⟨_, rfl⟩
  have EP : Ext H.n H hp := hhp ▸ ((Ext.refl _ _).push _ (Nat.le_refl _)).push _ (by rw [n_push]; omega)
  have A0 : hp.at H.n = some (mC a vo vp vb) := hhp ▸ (at_push_lt _ (by rw [n_push]; omega)).trans (at_push_n _ _)
  have B0 : hp.at (H.n + 1) = some (mC b uo up ub) := hhp ▸ at_push_n _ _
  unfold mC at A0 B0 hhp
  have LA := ld_at (T := tabOf Try.prog NT0) A0
  have LB := ld_at (T := tabOf Try.prog NT0) B0
  have lA := at_lt A0
  have lB := at_lt B0
  by_cases c1 : ¬ (a.epoch = b.epoch)
  · have e1 : (a.epoch == b.epoch) = false := by simp [c1]
    simp only [core, zrA, zrS, zrM, zrL, zrE, reduceCtorEq, zrD, ziE, ziL, ziN, Try.ntmps12, mpV, o1, o2, o3, p1, p2, p3, ← hhp, LA, LB, lA, lB, e1, aundef]
    rw [show sameD a b = false from decide_eq_false fun hh => c1 (same_iff.1 hh).1]
    first | exact ⟨EP, rfl⟩ | exact EP
  have c1 := Classical.not_not.1 c1
  have e1 : (a.epoch == b.epoch) = true := by simp [c1]
  by_cases c2 : ¬ (a.leaf = b.leaf)
  · have e2 : (a.leaf == b.leaf) = false := by simp [c2]
    simp only [core, zrA, zrS, zrM, zrL, zrE, reduceCtorEq, zrD, ziE, ziL, ziN, Try.ntmps12, mpV, o1, o2, o3, p1, p2, p3, ← hhp, LA, LB, lA, lB, e1, e2, aundef]
    rw [show sameD a b = false from decide_eq_false fun hh => c2 (same_iff.1 hh).2.1]
    first | exact ⟨EP, rfl⟩ | exact EP
  have c2 := Classical.not_not.1 c2
  have e2 : (a.leaf == b.leaf) = true := by simp [c2]
  simp only [core, zrA, zrS, zrM, zrL, zrE, reduceCtorEq, zrD, ziE, ziL, ziN, Try.ntmps12, mpV, o1, o2, o3, p1, p2, p3, ← hhp, LA, LB, lA, lB, e1, e2, s1, s2, s3, t1, t2, t3]
  clear hhp
  refine (equalO_x (ha.o.ext EP (Nat.le_refl _)) (hb.o.ext EP (Nat.le_refl _)) hok.1.1).mono ?_
  rintro _ h2 ⟨rfl, rfl⟩
  by_cases c3 : ¬ (a.osds = b.osds)
  · have e3 : decide (a.osds = b.osds) = false := decide_eq_false c3
    simp only [core, zrA, zrS, zrM, zrL, zrE, reduceCtorEq, zrD, ziE, ziL, ziN, LA, LB, lA, lB, e3, aundef]
    rw [show sameD a b = false from decide_eq_false fun hh => c3 (same_iff.1 hh).2.2.1]
    first | exact ⟨EP, rfl⟩ | exact EP
  have c3 := Classical.not_not.1 c3
  have e3 : decide (a.osds = b.osds) = true := decide_eq_true c3
  simp only [core, zrA, zrS, zrM, zrL, zrE, reduceCtorEq, zrD, ziE, ziL, ziN, LA, LB, lA, lB, e3, s1, s2, s3, t1, t2, t3]
  refine (equalP_x (ha.p.ext EP (Nat.le_refl _)) (hb.p.ext EP (Nat.le_refl _)) hok.2.1.1).mono ?_
  rintro _ h3 ⟨rfl, rfl⟩
  by_cases c4 : ¬ (a.pools = b.pools)
  · have e4 : decide (a.pools = b.pools) = false := decide_eq_false c4
    simp only [core, zrA, zrS, zrM, zrL, zrE, reduceCtorEq, zrD, ziE, ziL, ziN, LA, LB, lA, lB, e4, aundef]
    rw [show sameD a b = false from decide_eq_false fun hh => c4 (same_iff.1 hh).2.2.2.1]
    first | exact ⟨EP, rfl⟩ | exact EP
  have c4 := Classical.not_not.1 c4
  have e4 : decide (a.pools = b.pools) = true := decide_eq_true c4
  simp only [core, zrA, zrS, zrM, zrL, zrE, reduceCtorEq, zrD, ziE, ziL, ziN, LA, LB, lA, lB, e4, s1, s2, s3, t1, t2, t3]
  refine (eqFunc_x (ha.b.ext EP (Nat.le_refl _)) (hb.b.ext EP (Nat.le_refl _)) hok.2.2.1 hok.2.2.2).mono ?_
  rintro _ h4 ⟨e5, rfl⟩
  have hD : sameD a b = decide (a.buckets = b.buckets) := by
    unfold sameD
    by_cases c5 : a.buckets = b.buckets
    · rw [decide_eq_true c5, decide_eq_true (same_iff.2 ⟨c1, c2, c3, c4, c5⟩)]
    · rw [decide_eq_false c5, decide_eq_false fun hh => c5 (same_iff.1 hh).2.2.2.2]
  rw [hD]
  simp only [core, zrA, zrS, zrM, zrL, zrE, reduceCtorEq, zrD, ziE, ziL, ziN]
  first | exact ⟨EP.step e5, rfl⟩ | exact EP.step e5
end Go.Proofs.Ytmfhagahkkhbeaa.Ex
end

section

set_option linter.unusedSimpArgs false
set_option linter.unusedVariables false
set_option maxRecDepth 10000
set_option maxHeartbeats 4000000
namespace Go.Proofs.Ytmfhagahkkhbeaa.Ex
open Go
theorem sameR10_x {F G : Nat → Prop} {H : AH} {a b : MapD} {vo vp vb uo up ub : AV} (ha : MpAt F H a vo vp vb) (hb : MpAt G H b uo up ub) (hok : OkMp a) :
    WC Try.prog (tabOf Try.prog NT0) S0 24 [mpV a vo vp vb, mpV b uo up ub] H fun r h' => Ext H.n H h' ∧ r = .lit (.bool (sameD a b)) := by
  refine WC_fn Try.func24 rfl rfl ?_
  have o1 := ha.o.one
  have o2 := ha.p.one
  have o3 := ha.b.one
  have p1 := hb.o.one
  have p2 := hb.p.one
  have p3 := hb.b.one
  have s1 := ha.o.isSl
  have s2 := ha.p.isSl
  have s3 := ha.b.isSl
  have t1 := hb.o.isSl
  have t2 := hb.p.isSl
  have t3 := hb.b.isSl
  have d1 := ha.o.lenD
  have d2 := ha.p.lenD
  have d3 := ha.b.lenD
  have q1 := hb.o.lenD
  have q2 := hb.p.lenD
  have q3 := hb.b.lenD
  obtain ⟨⟨so, -⟩, ⟨sp, -⟩, sb, hbk⟩ := hok
  unfold Sm at so sp sb
  obtain ⟨hp, hhp⟩ : ∃ hp, hp = (H.push (mC a vo vp vb)).push (mC b uo up ub) := ⟨_, rfl⟩
  have EP : Ext H.n H hp := hhp ▸ ((Ext.refl _ _).push _ (Nat.le_refl _)).push _ (by rw [n_push]; omega)
  have A0 : hp.at H.n = some (mC a vo vp vb) := hhp ▸ (at_push_lt _ (by rw [n_push]; omega)).trans (at_push_n _ _)
  have B0 : hp.at (H.n + 1) = some (mC b uo up ub) := hhp ▸ at_push_n _ _
  unfold mC at A0 B0 hhp
  have nP : hp.n = H.n + 2 := by rw [hhp, n_push, n_push]
  have LA := ld_at (T := tabOf Try.prog NT0) A0
  have LB := ld_at (T := tabOf Try.prog NT0) B0
  have lA := at_lt A0
  have lB := at_lt B0
  by_cases c1 : ¬ (a.epoch = b.epoch)
  · have e1 : (a.epoch != b.epoch) = true := by simp [c1]
    simp only [core, zrA, zrS, zrM, zrL, zrE, reduceCtorEq, zrD, ziE, ziL, ziN, Try.ntmps24, mpV, o1, o2, o3, p1, p2, p3, ← hhp, LA, LB, lA, lB, s1, s2, s3, t1, t2, t3, d1, d2, d3, q1, q2, q3, e1, aundef]
    rw [show sameD a b = false from decide_eq_false (fun hh => c1 (same_iff.1 hh).1)]
    first | exact ⟨EP, rfl⟩ | exact EP
  have c1 := Classical.not_not.1 c1
  have e1 : (a.epoch != b.epoch) = false := by simp [c1]
  by_cases c2 : ¬ (a.leaf = b.leaf)
  · have e2 : (a.leaf != b.leaf) = true := by simp [c2]
    simp only [core, zrA, zrS, zrM, zrL, zrE, reduceCtorEq, zrD, ziE, ziL, ziN, Try.ntmps24, mpV, o1, o2, o3, p1, p2, p3, ← hhp, LA, LB, lA, lB, s1, s2, s3, t1, t2, t3, d1, d2, d3, q1, q2, q3, e1, e2, aundef]
    rw [show sameD a b = false from decide_eq_false (fun hh => c2 (same_iff.1 hh).2.1)]
    first | exact ⟨EP, rfl⟩ | exact EP
  have c2 := Classical.not_not.1 c2
  have e2 : (a.leaf != b.leaf) = false := by simp [c2]
  by_cases c3 : ¬ (a.osds.length = b.osds.length)
  · have e3 : ((a.osds.length : Int) != (b.osds.length : Int)) = true := by simp; omega
    simp only [core, zrA, zrS, zrM, zrL, zrE, reduceCtorEq, zrD, ziE, ziL, ziN, Try.ntmps24, mpV, o1, o2, o3, p1, p2, p3, ← hhp, LA, LB, lA, lB, s1, s2, s3, t1, t2, t3, d1, d2, d3, q1, q2, q3, e1, e2, e3, aundef]
    rw [show sameD a b = false from decide_eq_false (fun hh => c3 (by rw [hh]))]
    first | exact ⟨EP, rfl⟩ | exact EP
  have c3 := Classical.not_not.1 c3
  have e3 : ((a.osds.length : Int) != (b.osds.length : Int)) = false := by simp; omega
  by_cases c4 : ¬ (a.pools.length = b.pools.length)
  · have e4 : ((a.pools.length : Int) != (b.pools.length : Int)) = true := by simp; omega
    simp only [core, zrA, zrS, zrM, zrL, zrE, reduceCtorEq, zrD, ziE, ziL, ziN, Try.ntmps24, mpV, o1, o2, o3, p1, p2, p3, ← hhp, LA, LB, lA, lB, s1, s2, s3, t1, t2, t3, d1, d2, d3, q1, q2, q3, e1, e2, e3, e4, aundef]
    rw [show sameD a b = false from decide_eq_false (fun hh => c4 (by rw [hh]))]
    first | exact ⟨EP, rfl⟩ | exact EP
  have c4 := Classical.not_not.1 c4
  have e4 : ((a.pools.length : Int) != (b.pools.length : Int)) = false := by simp; omega
  by_cases c5 : ¬ (a.buckets.length = b.buckets.length)
  · have e5 : ((a.buckets.length : Int) != (b.buckets.length : Int)) = true := by simp; omega
    simp only [core, zrA, zrS, zrM, zrL, zrE, reduceCtorEq, zrD, ziE, ziL, ziN, Try.ntmps24, mpV, o1, o2, o3, p1, p2, p3, ← hhp, LA, LB, lA, lB, s1, s2, s3, t1, t2, t3, d1, d2, d3, q1, q2, q3, e1, e2, e3, e4, e5, aundef]
    rw [show sameD a b = false from decide_eq_false (fun hh => c5 (by rw [hh]))]
    first | exact ⟨EP, rfl⟩ | exact EP
  have c5 := Classical.not_not.1 c5
  have e5 : ((a.buckets.length : Int) != (b.buckets.length : Int)) = false := by simp; omega
  simp only [core, zrA, zrS, zrM, zrL, zrE, reduceCtorEq, zrD, ziE, ziL, ziN, Try.ntmps24, mpV, o1, o2, o3, p1, p2, p3, ← hhp, LA, LB, lA, lB, s1, s2, s3, t1, t2, t3, d1, d2, d3, q1, q2, q3, e1, e2, e3, e4, e5, aundef]
  clear hhp
  refine WB_for a.osds.length (fun i t h => h = hp ∧ (a.osds.take i = b.osds.take i) ∧ t.n = 102 ∧ t.get 2 = .ptr H.n 0 ∧ t.get 3 = .ptr (H.n + 1) 0 ∧ t.get 49 = .lit (.int .i64 a.osds.length) ∧ t.get 50 = .lit (.int .i64 i)) ?_ ?_ _ _ ?_
  · rintro i t h hlt hc ⟨hh, hx, hn, g2, g3, g49, g50⟩ ih
    replace hh := hh.symm
    subst hh
    have hlt2 : i < b.osds.length := by omega
    obtain ⟨x, hx1⟩ : ∃ x, a.osds[i]? = some x := ⟨_, List.getElem?_eq_getElem hlt⟩
    obtain ⟨y, hy1⟩ : ∃ y, b.osds[i]? = some y := ⟨_, List.getElem?_eq_getElem hlt2⟩
    obtain ⟨k1, hc1, l1, l1'⟩ := ha.o.atE (T := tabOf Try.prog NT0) EP ROsd_z hx1
    obtain ⟨rfl, -⟩ := ROsd_is.1 hc1
    obtain ⟨k2, hc2, l2, l2'⟩ := hb.o.atE (T := tabOf Try.prog NT0) EP ROsd_z hy1
    obtain ⟨rfl, -⟩ := ROsd_is.1 hc2
    have hw := wrap_succ hlt (by omega)
    simp only [core, zrA, zrS, zrM, zrL, zrE, reduceCtorEq, zrD, ziE, ziL, ziN, LA, LB, lA, lB, hn, g2, g3, g49, g50, s1, t1, d1, q1, hlt, hlt2, hc, hw]
    rw [WB_regionD [0, 1, 2, 3, 4, 5, 6, 7, 8, 9, 10] 1328234227038981502217834417061103616 (by kernel_rfl)]
    by_cases hxy : x = y
    · have hd : decide (x = y) = true := decide_eq_true hxy
      repeat ((with_reducible refine WDM_cons ?_; simp only [dw1]; try simp only [dw2, zrA, zrM, zrR, zrO, zrE]); simp only [core, zrA, zrS, zrM, zrL, zrE, reduceCtorEq, zrD, ziE, ziL, ziN, cored, LA, LB, lA, lB, hn, g2, g3, g49, g50, s1, t1, d1, q1, hlt, hlt2, hc, l1, l1', l2, l2', hw, a_neMosd, neMosd_eq, eqOsd, hd])
      refine ih _ _ ⟨rfl, take_eq_succ hx1 hy1 hx hxy, ?_⟩
      simp only [core, zrA, zrS, zrM, zrL, zrE, reduceCtorEq, zrD, ziE, ziL, ziN, hn, g2, g3, g49, g50]
    · have hd : decide (x = y) = false := decide_eq_false hxy
      repeat ((with_reducible refine WDM_cons ?_; simp only [dw1]; try simp only [dw2, zrA, zrM, zrR, zrO, zrE]); simp only [core, zrA, zrS, zrM, zrL, zrE, reduceCtorEq, zrD, ziE, ziL, ziN, cored, LA, LB, lA, lB, hn, g2, g3, g49, g50, s1, t1, d1, q1, hlt, hlt2, hc, l1, l1', l2, l2', hw, a_neMosd, neMosd_eq, eqOsd, hd])
      rw [show sameD a b = false from decide_eq_false fun hh => ne_of_get hx1 hy1 hxy (by rw [hh])]
      first | exact ⟨EP, rfl⟩ | exact EP
  · rintro t h hc ⟨hh, hx, hn, g2, g3, g49, g50⟩
    replace hh := hh.symm
    subst hh
    rw [List.take_length, c3, List.take_length] at hx
    have hxo := hx
    simp only [core, zrA, zrS, zrM, zrL, zrE, reduceCtorEq, zrD, ziE, ziL, ziN, LA, LB, lA, lB, hn, g2, g3, g49, g50, hc, s2, d2]
    refine WB_for a.pools.length (fun i t h => h = hp ∧ (a.pools.take i = b.pools.take i) ∧ t.n = 102 ∧ t.get 2 = .ptr H.n 0 ∧ t.get 3 = .ptr (H.n + 1) 0 ∧ t.get 67 = .lit (.int .i64 a.pools.length) ∧ t.get 68 = .lit (.int .i64 i)) ?_ ?_ _ _ ?_
    · rintro i t h hlt hc ⟨hh, hx, hn, g2, g3, g67, g68⟩ ih
      replace hh := hh.symm
      subst hh
      have hlt2 : i < b.pools.length := by omega
      obtain ⟨x, hx1⟩ : ∃ x, a.pools[i]? = some x := ⟨_, List.getElem?_eq_getElem hlt⟩
      obtain ⟨y, hy1⟩ : ∃ y, b.pools[i]? = some y := ⟨_, List.getElem?_eq_getElem hlt2⟩
      obtain ⟨k1, hc1, l1, l1'⟩ := ha.p.atE (T := tabOf Try.prog NT0) EP RPool_z hx1
      obtain ⟨rfl, -⟩ := RPool_is.1 hc1
      obtain ⟨k2, hc2, l2, l2'⟩ := hb.p.atE (T := tabOf Try.prog NT0) EP RPool_z hy1
      obtain ⟨rfl, -⟩ := RPool_is.1 hc2
      have hw := wrap_succ hlt (by omega)
      simp only [core, zrA, zrS, zrM, zrL, zrE, reduceCtorEq, zrD, ziE, ziL, ziN, LA, LB, lA, lB, hn, g2, g3, g67, g68, s2, t2, d2, q2, hlt, hlt2, hc, hw]
      rw [WB_regionD [0, 1, 2, 3, 4, 5, 6, 7, 8, 9, 10] 1328234227038981502217834417061103616 (by kernel_rfl)]
      by_cases hxy : x = y
      · have hd : decide (x = y) = true := decide_eq_true hxy
        repeat ((with_reducible refine WDM_cons ?_; simp only [dw1]; try simp only [dw2, zrA, zrM, zrR, zrO, zrE]); simp only [core, zrA, zrS, zrM, zrL, zrE, reduceCtorEq, zrD, ziE, ziL, ziN, cored, LA, LB, lA, lB, hn, g2, g3, g67, g68, s2, t2, d2, q2, hlt, hlt2, hc, l1, l1', l2, l2', hw, a_neMpool, neMpool_eq, eqPool, hd])
        refine ih _ _ ⟨rfl, take_eq_succ hx1 hy1 hx hxy, ?_⟩
        simp only [core, zrA, zrS, zrM, zrL, zrE, reduceCtorEq, zrD, ziE, ziL, ziN, hn, g2, g3, g67, g68]
      · have hd : decide (x = y) = false := decide_eq_false hxy
        repeat ((with_reducible refine WDM_cons ?_; simp only [dw1]; try simp only [dw2, zrA, zrM, zrR, zrO, zrE]); simp only [core, zrA, zrS, zrM, zrL, zrE, reduceCtorEq, zrD, ziE, ziL, ziN, cored, LA, LB, lA, lB, hn, g2, g3, g67, g68, s2, t2, d2, q2, hlt, hlt2, hc, l1, l1', l2, l2', hw, a_neMpool, neMpool_eq, eqPool, hd])
        rw [show sameD a b = false from decide_eq_false fun hh => ne_of_get hx1 hy1 hxy (by rw [hh])]
        first | exact ⟨EP, rfl⟩ | exact EP
    · rintro t h hc ⟨hh, hx, hn, g2, g3, g67, g68⟩
      replace hh := hh.symm
      subst hh
      rw [List.take_length, c4, List.take_length] at hx
      have hxp := hx
      simp only [core, zrA, zrS, zrM, zrL, zrE, reduceCtorEq, zrD, ziE, ziL, ziN, LA, LB, lA, lB, hn, g2, g3, g67, g68, hc, s3, d3]
      refine WB_for a.buckets.length (fun i t h => Ext hp.n hp h ∧ (a.buckets.take i = b.buckets.take i) ∧ t.n = 102 ∧ t.get 2 = .ptr H.n 0 ∧ t.get 3 = .ptr (H.n + 1) 0 ∧ t.get 85 = .lit (.int .i64 a.buckets.length) ∧ t.get 86 = .lit (.int .i64 i)) ?_ ?_ _ _ ?_
      · rintro i t h hlt hc ⟨E, hx, hn, g2, g3, g85, g86⟩ ih
        have hlt2 : i < b.buckets.length := by omega
        obtain ⟨x, hx1⟩ : ∃ x, a.buckets[i]? = some x := ⟨_, List.getElem?_eq_getElem hlt⟩
        obtain ⟨y, hy1⟩ : ∃ y, b.buckets[i]? = some y := ⟨_, List.getElem?_eq_getElem hlt2⟩
        have EH := EP.trans (E.mono EP.1)
        obtain ⟨k1, hc1, l1, l1'⟩ := ha.b.atE (T := tabOf Try.prog NT0) EH RBkt_z hx1
        obtain ⟨va, vw, rfl, xa, xw, -⟩ := RBkt_is.1 hc1
        obtain ⟨k2, hc2, l2, l2'⟩ := hb.b.atE (T := tabOf Try.prog NT0) EH RBkt_z hy1
        obtain ⟨ua, uw, rfl, ya, yw, -⟩ := RBkt_is.1 hc2
        have hw := wrap_succ hlt (by omega)
        have AH := (E.2 _ lA).trans A0
        have BH := (E.2 _ lB).trans B0
        have LAH := ld_at (T := tabOf Try.prog NT0) AH
        have LBH := ld_at (T := tabOf Try.prog NT0) BH
        have lAH := at_lt AH
        have lBH := at_lt BH
        have z1 := xa.one
        have z2 := xw.one
        have z3 := ya.one
        have z4 := yw.one
        have z5 := xa.isSl
        have z6 := xw.isSl
        have z7 := ya.isSl
        have z8 := yw.isSl
        obtain ⟨la, lw⟩ := hbk x (List.mem_of_getElem? hx1)
        simp only [core, zrA, zrS, zrM, zrL, zrE, reduceCtorEq, zrD, ziE, ziL, ziN, LAH, LBH, lAH, lBH, hn, g2, g3, g85, g86, s3, t3, d3, q3, hlt, hlt2, hc, hw]
        rw [WB_regionD [0, 1, 2, 3, 4, 5, 6, 7, 8, 9, 10, 11] 11146288037420917388889565536438217309425664 (by kernel_rfl)]
        repeat ((with_reducible refine WDM_cons ?_; simp only [dw1]; try simp only [dw2, zrA, zrM, zrR, zrO, zrE]); simp only [core, zrA, zrS, zrM, zrL, zrE, reduceCtorEq, zrD, ziE, ziL, ziN, cored, LAH, LBH, lAH, lBH, hn, g2, g3, g85, g86, s3, t3, d3, q3, hlt, hlt2, hc, l1, l1', l2, l2', hw, z1, z2, z3, z4])
        first | refine ⟨by simp only [same_sl, z5, z6, z7, z8, s3, t3, Bool.and_self], ?_⟩ | skip
        refine (sameBktR_x x y (xa.ext EH (Nat.le_refl _)) (xw.ext EH (Nat.le_refl _)) (ya.ext EH (Nat.le_refl _)) (yw.ext EH (Nat.le_refl _)) la lw).mono ?_
        rintro _ h5 ⟨e5, rfl⟩
        have E5 := E.trans (e5.mono E.1)
        rw [sameB_dec]
        by_cases hxy : x = y
        · have hd : decide (x = y) = true := decide_eq_true hxy
          repeat (first | ((with_reducible refine WDM_cons ?_; simp only [dw1]; try simp only [dw2, zrA, zrM, zrR, zrO, zrE]); simp only [core, zrA, zrS, zrM, zrL, zrE, reduceCtorEq, zrD, ziE, ziL, ziN, cored, hn, g2, g3, g85, g86, hd, hw]) | simp only [core, zrA, zrS, zrM, zrL, zrE, reduceCtorEq, zrD, ziE, ziL, ziN, cored, hn, g2, g3, g85, g86, hd, hw])
          refine ih _ _ ⟨E5, take_eq_succ hx1 hy1 hx hxy, ?_⟩
          simp only [core, zrA, zrS, zrM, zrL, zrE, reduceCtorEq, zrD, ziE, ziL, ziN, hn, g2, g3, g85, g86]
        · have hd : decide (x = y) = false := decide_eq_false hxy
          repeat (first | ((with_reducible refine WDM_cons ?_; simp only [dw1]; try simp only [dw2, zrA, zrM, zrR, zrO, zrE]); simp only [core, zrA, zrS, zrM, zrL, zrE, reduceCtorEq, zrD, ziE, ziL, ziN, cored, hn, g2, g3, g85, g86, hd, hw]) | simp only [core, zrA, zrS, zrM, zrL, zrE, reduceCtorEq, zrD, ziE, ziL, ziN, cored, hn, g2, g3, g85, g86, hd, hw])
          rw [show sameD a b = false from decide_eq_false fun hh => ne_of_get hx1 hy1 hxy (by rw [hh])]
          first | exact ⟨EP.trans (E5.mono EP.1), rfl⟩ | exact EP.trans (E5.mono EP.1)
      · rintro t h hc ⟨E, hx, hn, g2, g3, g85, g86⟩
        rw [List.take_length, c5, List.take_length] at hx
        simp only [core, zrA, zrS, zrM, zrL, zrE, reduceCtorEq, zrD, ziE, ziL, ziN, hn, g2, g3, g85, g86, hc]
        rw [show sameD a b = true from decide_eq_true (same_iff.2 ⟨c1, c2, hxo, hxp, hx⟩)]
        first | exact ⟨EP.trans (E.mono EP.1), rfl⟩ | exact EP.trans (E.mono EP.1)
      · refine ⟨Ext.refl _ _, rfl, ?_⟩
        simp only [core, zrA, zrS, zrM, zrL, zrE, reduceCtorEq, zrD, ziE, ziL, ziN, hn, g2, g3, g67, g68]
        try simp
    · refine ⟨rfl, rfl, ?_⟩
      simp only [core, zrA, zrS, zrM, zrL, zrE, reduceCtorEq, zrD, ziE, ziL, ziN, hn, g2, g3, g49, g50]
      try simp
  · refine ⟨rfl, rfl, ?_⟩
    simp only [core, zrA, zrS, zrM, zrL, zrE, reduceCtorEq, zrD, ziE, ziL, ziN]
    try simp
end Go.Proofs.Ytmfhagahkkhbeaa.Ex
end

section

set_option linter.unusedSimpArgs false
set_option linter.unusedVariables false
set_option maxRecDepth 10000
set_option maxHeartbeats 4000000
namespace Go.Proofs.Ytmfhagahkkhbeaa.Ex
open Go
def chO (kind n value : Int) : ChD := ⟨kind, n, value, pool0, bkt0⟩
def dfC (a b : MapD) (vo vp vb uo up ub s : AV) : AB := .cells [.lit (.int .i64 a.epoch), vo, vp, vb, .lit (.int .i64 a.leaf), .lit (.int .i64 b.epoch), uo, up, ub, .lit (.int .i64 b.leaf), s] 60
/-- A row of changes of the run's own. -/
abbrev OwnC (G : Nat → Prop) (n0 : Nat) (h : AH) (v : AV) (xs : List ChD) : Prop := OwnL RCh G n0 h v 54 xs
theorem OwnL.sepAt {α : Type} {R : Rep α} {G : Nat → Prop} {n0 b : Nat} {h : AH} {v : AV} {e e' : TypeId} {xs : List α} {l : List AV} (ho : OwnL R G n0 h v e xs) (hb : h.at b = some (.cells l e')) (hne : e' ≠ e) : Apart v b := fun off n cap ev => by
  obtain ⟨L, h1, h2⟩ := ho
  rcases h1.2 with ⟨hh, _⟩ | ⟨p, hh, hp, hat⟩
  · rw [hh] at ev; cases ev
  · rw [hh] at ev
    cases ev
    rw [hat] at hb
    cases hb
    exact hne rfl
theorem OwnL.putSep {α : Type} {R : Rep α} {G : Nat → Prop} {n0 b : Nat} {h : AH} {v : AV} {e e' : TypeId} {xs : List α} {l : List AV} {x : AB} (ho : OwnL R G n0 h v e xs) (hb : h.at b = some (.cells l e')) (hne : e' ≠ e) (hG : ¬ G b) : OwnL R G n0 (h.put b x) v e xs := by
  refine ho.lift (fun p off m cap ev => at_put_ne _ fun hp => ?_) fun k hk hlt ha => at_put_ne _ fun hp => hG (hp ▸ hk)
  exact ho.sepAt hb hne off m cap (hp ▸ ev)
theorem push_ch {G : Nat → Prop} {n0 q : Nat} {h : AH} {v va vw : AV} {xs : List ChD} {x : ChD} {cap : Cap} {e' : TypeId} (ho : OwnC G n0 h v xs) (hn0 : n0 ≤ h.n)
    (A : h.at q = some (.cells [.lit (.int .i64 x.kind), .lit (.int .i64 x.osd), .lit (.int .i64 x.value), .lit (.int .i64 x.pool.id), .lit (.int .i64 x.pool.size), .lit (.int .i64 x.pool.min), .lit (.int .i64 x.pool.pgs), .lit (.int .i64 x.bucket.id), .lit (.int .i64 x.bucket.kind), va, vw] e'))
    (ha : IsSl RInt (fun k => G k ∧ Apart v k) h va x.bucket.items) (hw : IsSl RInt (fun k => G k ∧ Apart v k) h vw x.bucket.weights) (hi : (I64 x.kind ∧ I64 x.osd ∧ I64 x.value) ∧ okP x.pool ∧ I64 x.bucket.id ∧ I64 x.bucket.kind) (hl : (xs.length + 1) * 120 ≤ 140737488355328) :
    ∃ s' h', appendA (tabOf Try.prog NT0) h 29 29 v (.sl q 0 1 cap) = some (s', h') ∧ OwnC G n0 h' s' (xs ++ [x]) ∧ Fr h v h' s' := by
  obtain ⟨s', h', a, b, c, d⟩ := ho.snoc (T := tabOf Try.prog NT0) (t := 29) (tx := 29) (y := x) (cap := cap) (by kernel_rfl) (by kernel_rfl) (by kernel_rfl) (zv := .agg [.lit (.int .i64 0), .lit (.int .i64 0), .lit (.int .i64 0), .lit (.int .i64 0), .lit (.int .i64 0), .lit (.int .i64 0), .lit (.int .i64 0), .lit (.int .i64 0), .lit (.int .i64 0), .lit (.slice none 0 0), .lit (.slice none 0 0)]) (by kernel_rfl) (by' := 120) (by kernel_rfl) rfl (by decide) (by decide) A
    (RCh_is.2 ⟨va, vw, rfl, ha, hw, hi.1, hi.2.1, hi.2.2⟩) (by omega) hl hn0
  exact ⟨s', h', a, b, c.1, d⟩
theorem I64z : I64 0 := by unfold I64; decide
theorem okp0 : okP pool0 := ⟨I64z, I64z, I64z, I64z⟩
theorem add_x {G : Nat → Prop} {H : AH} {a b : MapD} {vo vp vb uo up ub s : AV} {n0 q b1 b2 : Nat} {n kind value : Int} {xs : List ChD} (h1 : H.at b1 = some (.cells [.ptr q 0] 58)) (h2 : H.at b2 = some (.cells [.lit (.int .i64 n)] 3)) (hq : H.at q = some (dfC a b vo vp vb uo up ub s))
    (ho : OwnC G n0 H s xs) (hn0 : n0 ≤ H.n) (q0 : q < n0) (hG : ¬ G q) (hb : q ≠ b1 ∧ q ≠ b2) (k1 : Apart s b1) (hi : I64 kind ∧ I64 n ∧ I64 value) (hl : (xs.length + 1) * 120 ≤ 140737488355328) :
    WC Try.prog (tabOf Try.prog NT0) S0 34 [.lit (.int .i64 kind), .lit (.int .i64 value), .ptr b1 0, .ptr b2 0] H fun r h' => r = .tup [] ∧ ∃ s', h'.at q = some (dfC a b vo vp vb uo up ub s') ∧ OwnC G n0 h' s' (xs ++ [chO kind n value]) ∧ H.n ≤ h'.n ∧ ∀ k, k < H.n → k ≠ q → Apart s k → h'.at k = H.at k ∧ Apart s' k := by
  refine WC_fn Try.func34 rfl rfl ?_
  unfold dfC at hq
  have L1 := ld_at (T := tabOf Try.prog NT0) h1
  have L2 := ld_at (T := tabOf Try.prog NT0) h2
  have L3 := ld_at (T := tabOf Try.prog NT0) hq
  have l1 := at_lt h1
  have l2 := at_lt h2
  have l3 := at_lt hq
  have t1 := (ho.toSl (F := fun _ => True) (fun _ _ => trivial) (fun _ _ => trivial)).isSl
  have t2 := (ho.toSl (F := fun _ => True) (fun _ _ => trivial) (fun _ _ => trivial)).one
  simp only [core, zrA, zrS, zrM, zrL, zrE, reduceCtorEq, zrD, ziE, ziL, ziN, Try.ntmps34]
  rw [WB_regionD [0, 1, 2, 3, 4, 5, 6, 7, 8, 9, 10, 11, 12, 13] 50212216069073070219840294557419638308308816983021183827968 (by kernel_rfl)]
  repeat ((with_reducible refine WDM_cons ?_; simp only [dw1]; try simp only [dw2, zrA, zrM, zrR, zrO, zrE]); simp only [core, zrA, zrS, zrM, zrL, zrE, reduceCtorEq, zrD, ziE, ziL, ziN, cored, L1, L2, L3, l1, l2, l3, t1, t2])
  have eA : Ext H.n H (H.push (.cells [.lit (.int .i64 kind), .lit (.int .i64 n), .lit (.int .i64 value), .lit (.int .i64 0), .lit (.int .i64 0), .lit (.int .i64 0), .lit (.int .i64 0), .lit (.int .i64 0), .lit (.int .i64 0), .lit (.slice none 0 0), .lit (.slice none 0 0)] 54)) := (Ext.refl _ _).push _ (Nat.le_refl _)
  refine WOpD_app (push_ch (x := chO kind n value) (ho.ext eA (Nat.le_refl _)) (by rw [n_push]; omega) (at_push_n H _) .nil .nil ⟨hi, okp0, I64z, I64z⟩ hl) ?_
  rintro s' h' ⟨o', f'⟩
  have fr : Fr H s h' s' := (Fr.ext eA).trans f'
  have g1 := (fr.box h1 k1).1
  have g3 := (fr.box hq (ho.apartLt q0)).1
  have LG1 := ld_at (T := tabOf Try.prog NT0) g1
  have lG1 := at_lt g1
  have lG3 := at_lt g3
  have LG3 := ld_at (T := tabOf Try.prog NT0) g3
  have t3 := (o'.toSl (F := fun _ => True) (fun _ _ => trivial) (fun _ _ => trivial)).isSl
  have t4 := (o'.toSl (F := fun _ => True) (fun _ _ => trivial) (fun _ _ => trivial)).one
  repeat (first | ((with_reducible refine WDM_cons ?_; simp only [dw1]; try simp only [dw2, zrA, zrM, zrR, zrO, zrE]); simp only [core, zrA, zrS, zrM, zrL, zrE, reduceCtorEq, zrD, ziE, ziL, ziN, cored, LG1, lG1, g3, lG3, LG3, t3, t4, same_one]) | simp only [core, zrA, zrS, zrM, zrL, zrE, reduceCtorEq, zrD, ziE, ziL, ziN, cored, LG1, lG1, g3, lG3, LG3, t3, t4, same_one])
  exact ⟨.inl trivial, s', rfl, o'.putSep g3 (by decide) hG, fr.1, fun k hk hkq hka => ⟨by rw [at_put_ne _ (Ne.symm hkq)]; exact (fr.2 k hk hka).1, (fr.2 k hk hka).2⟩⟩
end Go.Proofs.Ytmfhagahkkhbeaa.Ex
end

section

set_option linter.unusedSimpArgs false
set_option linter.unusedVariables false
set_option maxRecDepth 10000
set_option maxHeartbeats 4000000
namespace Go.Proofs.Ytmfhagahkkhbeaa.Ex
open Go
/-! What the two sides gather of one osd: w is the weight that is held against the new one. -/
def oneC (w : Int) (x y : OsdD) (n : Int) : List ChD :=
  (if x.up = true ∧ (y.up = false ∨ x.boot ≠ y.boot) then [chO 2 n x.boot] else []) ++ ((if y.ex = true ∧ y.boot ≠ x.boot then [chO 1 n y.boot] else []) ++ ((if w ≠ y.weight then [chO 3 n y.weight] else []) ++ (if x.upThru ≠ y.upThru then [chO 4 n y.upThru] else [])))
def wP (x y : OsdD) : Int := if (y.ex = true ∧ y.boot ≠ x.boot) ∧ x.ex = false then 65536 else x.weight
def wD (x y : OsdD) : Int := if x.ex = false ∧ y.ex = true then 65536 else x.weight
def osL (w : OsdD → OsdD → Int) (a b : MapD) : Nat → List ChD
  | 0 => []
  | n + 1 => osL w a b n ++ oneC (w (osdG a n) (osdG b n)) (osdG a n) (osdG b n) n
theorem oneC_len (w : Int) (x y : OsdD) (n : Int) : (oneC w x y n).length ≤ 4 := by
  unfold oneC
  simp only [List.length_append]
  split <;> split <;> split <;> split <;> simp
theorem osL_len (w : OsdD → OsdD → Int) (a b : MapD) : ∀ n, (osL w a b n).length ≤ 4 * n
  | 0 => Nat.le_refl _
  | n + 1 => by
    have h1 := osL_len w a b n
    have h2 := oneC_len (w (osdG a n) (osdG b n)) (osdG a n) (osdG b n) n
    unfold osL
    rw [List.length_append]
    omega
structure DJ (a b : MapD) (vo vp vb uo up ub : AV) (q n0 : Nat) (H : AH) (c d e : Nat) (n : Nat) (y : OsdD) (h : AH) (l : List ChD) (xc : List AV) (s : AV) : Prop where
  Q : h.at q = some (dfC a b vo vp vb uo up ub s)
  o : OwnC (fun _ => False) n0 h s l
  E : Ext q H h
  B : h.at H.n = some (.cells [.ptr q 0] 58)
  C : h.at c = some (.cells [.lit (.int .i64 (n : Int))] 3)
  X : h.at d = some (.cells xc 57)
  Y : h.at e = some (.cells (oC' y) 57)
  l1 : H.n < c
  l2 : c < d
  l3 : d < e
theorem DJ.add {a b : MapD} {vo vp vb uo up ub s : AV} {q n0 : Nat} {H : AH} {c d e n : Nat} {y : OsdD} {h : AH} {l : List ChD} {xc : List AV} {kind value : Int} (j : DJ a b vo vp vb uo up ub q n0 H c d e n y h l xc s) (q0 : q < n0) (hn0 : n0 ≤ H.n) (hi : I64 kind ∧ I64 (n : Int) ∧ I64 value) (hl : (l.length + 1) * 120 ≤ 140737488355328) :
    WC Try.prog (tabOf Try.prog NT0) S0 34 [.lit (.int .i64 kind), .lit (.int .i64 value), .ptr H.n 0, .ptr c 0] h fun r h' => r = .tup [] ∧ ∃ s', DJ a b vo vp vb uo up ub q n0 H c d e n y h' (l ++ [chO kind n value]) xc s' := by
  obtain ⟨j1, j2, j3, j4, j5, j6, j7, j8, j9, j10⟩ := j
  have hn := j3.1
  refine (add_x j4 j5 j1 j2 (by omega) q0 id ⟨by omega, by omega⟩ (j2.sepAt j4 (by decide)) hi hl).mono ?_
  rintro r h' ⟨e, s', k1, k2, k3, k4⟩
  refine ⟨e, s', k1, k2, j3.trans ⟨k3, fun k hk => (k4 k (by omega) (by omega) (j2.apartLt (by omega))).1⟩, ?_, ?_, ?_, ?_, j8, j9, j10⟩
  · rw [(k4 _ (at_lt j4) (by omega) (j2.sepAt j4 (by decide))).1]; exact j4
  · rw [(k4 _ (at_lt j5) (by omega) (j2.sepAt j5 (by decide))).1]; exact j5
  · rw [(k4 _ (at_lt j6) (by omega) (j2.sepAt j6 (by decide))).1]; exact j6
  · rw [(k4 _ (at_lt j7) (by omega) (j2.sepAt j7 (by decide))).1]; exact j7
theorem DJ.put {a b : MapD} {vo vp vb uo up ub s : AV} {q n0 : Nat} {H : AH} {c d e n : Nat} {y : OsdD} {h : AH} {l : List ChD} {xc xc' : List AV} (j : DJ a b vo vp vb uo up ub q n0 H c d e n y h l xc s) (q0 : q < n0) (hn0 : n0 ≤ H.n) : DJ a b vo vp vb uo up ub q n0 H c d e n y (h.put d (.cells xc' 57)) l xc' s := by
  obtain ⟨j1, j2, j3, j4, j5, j6, j7, j8, j9, j10⟩ := j
  exact ⟨by rw [at_put_ne _ (by omega)]; exact j1, j2.putSep j6 (by decide) id, j3.put _ (by omega), by rw [at_put_ne _ (by omega)]; exact j4, by rw [at_put_ne _ (by omega)]; exact j5, at_put (at_lt j6), by rw [at_put_ne _ (by omega)]; exact j7, j8, j9, j10⟩
theorem oneC_eq (w : Int) (x y : OsdD) (n : Int) : oneC w x y n = (if (x.up && (!y.up || x.boot != y.boot)) = true then [chO 2 n x.boot] else []) ++ ((if (y.ex && y.boot != x.boot) = true then [chO 1 n y.boot] else []) ++ ((if (w != y.weight) = true then [chO 3 n y.weight] else []) ++ (if (x.upThru != y.upThru) = true then [chO 4 n y.upThru] else []))) := by
  unfold oneC
  simp only [Bool.and_eq_true, Bool.or_eq_true, Bool.not_eq_true', bne_iff_ne, ne_eq]
theorem any_cut {P : Program} {T : TT} {S : Sums} {E : FE} {X : List AI → KK → Prop} {k : List AI} {K : KK} (Inv : TM → AH → Prop) (ha : ∀ k' K', (∀ t' h', Inv t' h' → WB P T S E t' k' h' K') → X k' K') (hk : ∀ t' h', Inv t' h' → WB P T S E t' k h' K) : X k K := ha k K hk
theorem MpAt.extQ {q : Nat} {H h : AH} {m : MapD} {vo vp vb : AV} (hm : MpAt (fun k => k < q) H m vo vp vb) (E : Ext q H h) : MpAt (fun k => k < q) h m vo vp vb :=
  ⟨hm.o.lift fun b hb _ => ⟨E.2 b hb, hb⟩, hm.p.lift fun b hb _ => ⟨E.2 b hb, hb⟩, hm.b.lift fun b hb _ => ⟨E.2 b hb, hb⟩⟩
theorem osds_x {H : AH} {a b : MapD} {vo vp vb uo up ub s : AV} {q n0 : Nat} {xs : List ChD} (hq : H.at q = some (dfC a b vo vp vb uo up ub s)) (hm : MpAt (fun k => k < q) H a vo vp vb) (hm2 : MpAt (fun k => k < q) H b uo up ub)
    (ho : OwnC (fun _ => False) n0 H s xs) (q0 : q < n0) (hn0 : n0 ≤ H.n) (la : Sm 40 a.osds) (lb : Sm 40 b.osds) (hl : (xs.length + 4 * max a.osds.length b.osds.length) * 120 ≤ 140737488355328) :
    WC Try.prog (tabOf Try.prog NT0) S0 15 [.ptr q 0] H fun r h' => r = .tup [] ∧ Ext q H h' ∧ ∃ s', h'.at q = some (dfC a b vo vp vb uo up ub s') ∧ OwnC (fun _ => False) n0 h' s' (xs ++ osL wP a b (max a.osds.length b.osds.length)) := by
  refine WC_fn Try.func15 rfl rfl ?_
  have o1 := hm.o.one
  have o2 := hm.p.one
  have o3 := hm.b.one
  have p1 := hm2.o.one
  have p2 := hm2.p.one
  have p3 := hm2.b.one
  have s1 := hm.o.isSl
  have d1 := hm.o.lenD
  have t1 := hm2.o.isSl
  have d2 := hm2.o.lenD
  unfold Sm at la lb
  obtain ⟨N, hN⟩ : ∃ N, N = max a.osds.length b.osds.length := ⟨_, rfl⟩
  rw [← hN] at hl ⊢
  obtain ⟨hb, hhb⟩ : ∃ hb, hb = H.push (.cells [.ptr q 0] 58) := ⟨_, rfl⟩
  have EB : Ext H.n H hb := hhb ▸ (Ext.refl _ _).push _ (Nat.le_refl _)
  have B0 : hb.at H.n = some (.cells [.ptr q 0] 58) := hhb ▸ at_push_n _ _
  have nB : hb.n = H.n + 1 := by rw [hhb, n_push]
  have Q0 := (EB.2 _ (at_lt hq)).trans hq
  have hmx : (if (a.osds.length : Int) < (b.osds.length : Int) then (b.osds.length : Int) else (a.osds.length : Int)) = (N : Int) := by split <;> omega
  simp only [core, zrA, zrS, zrM, zrL, zrE, reduceCtorEq, zrD, ziE, ziL, ziN, Try.ntmps15, ← hhb]
  have LB0 := ld_at (T := tabOf Try.prog NT0) B0
  have LQ0 := ld_at (T := tabOf Try.prog NT0) Q0
  have lB0 := at_lt B0
  have lQ0 := at_lt Q0
  rw [WB_regionD [0, 1, 2, 3, 4, 5, 6, 7, 8, 9, 10, 11, 12, 13] 1532166704335572229735625010911326170023666765671710720 (by kernel_rfl)]
  unfold dfC at Q0 LQ0
  repeat ((with_reducible refine WDM_cons ?_; simp only [dw1]; try simp only [dw2, zrA, zrM, zrR, zrO, zrE]); simp only [core, zrA, zrS, zrM, zrL, zrE, reduceCtorEq, zrD, ziE, ziL, ziN, cored, LB0, lB0, LQ0, lQ0, s1, d1, t1, d2, hmx])
  refine WB_for N (fun i t h => (∃ s', h.at q = some (dfC a b vo vp vb uo up ub s') ∧ OwnC (fun _ => False) n0 h s' (xs ++ osL wP a b i) ∧ Ext q H h ∧ h.at H.n = some (.cells [.ptr q 0] 58)) ∧ t.n = 90 ∧ t.get 1 = .ptr H.n 0 ∧ t.get 18 = .lit (.int .i64 N) ∧ t.get 19 = .lit (.int .i64 i)) ?_ ?_ _ _ ?_
  · rintro i t h hlt hc ⟨⟨s', Q1, oC, EH, B1⟩, hn, g1, g18, g19⟩ ih
    have hwi := wrap_succ (n := N) hlt (by omega)
    have hlen := osL_len wP a b i
    obtain ⟨x, hx⟩ : ∃ x, x = osdG a i := ⟨_, rfl⟩
    obtain ⟨y, hy⟩ : ∃ y, y = osdG b i := ⟨_, rfl⟩
    have okx : okO x := hx ▸ osdG_ok hm _
    have oky : okO y := hy ▸ osdG_ok hm2 _
    have iI : I64 (i : Int) := by unfold I64; omega
    have f1 := EH.1
    obtain ⟨hA, hhA⟩ : ∃ hA, hA = h.push (.cells [.lit (.int .i64 i)] 3) := ⟨_, rfl⟩
    have eA : Ext h.n h hA := hhA ▸ (Ext.refl _ _).push _ (Nat.le_refl _)
    have nA : hA.n = h.n + 1 := by rw [hhA, n_push]
    have C0 : hA.at h.n = some (.cells [.lit (.int .i64 i)] 3) := hhA ▸ at_push_n _ _
    have QA := (eA.2 _ (at_lt Q1)).trans Q1
    have BA := (eA.2 _ (at_lt B1)).trans B1
    unfold dfC at QA
    have LQA := ld_at (T := tabOf Try.prog NT0) QA
    have LBA := ld_at (T := tabOf Try.prog NT0) BA
    have LCA := ld_at (T := tabOf Try.prog NT0) C0
    have lQA := at_lt QA
    have lBA := at_lt BA
    have lCA := at_lt C0
    obtain ⟨hB, hhB⟩ : ∃ hB, hB = (hA.push (.cells [.lit (.bool false), .lit (.bool false), .lit (.int .i64 0), .lit (.int .i64 0), .lit (.int .i64 0), .lit (.int .i64 0)] 57)).push (.cells [.lit (.bool false), .lit (.bool false), .lit (.int .i64 0), .lit (.int .i64 0), .lit (.int .i64 0), .lit (.int .i64 0)] 57) := ⟨_, rfl⟩
    have eB : Ext hA.n hA hB := hhB ▸ ((Ext.refl _ _).push _ (Nat.le_refl _)).push _ (by rw [n_push]; omega)
    have nB : hB.n = h.n + 3 := by rw [hhB, n_push, n_push, nA]
    simp only [core, zrA, zrS, zrM, zrL, zrE, reduceCtorEq, zrD, ziE, ziL, ziN, hn, g1, g18, g19, hlt, hc, ← hhA]
    rw [WB_regionD [0, 1, 2, 3, 4, 6, 7, 8, 9, 10, 12, 13, 5, 11, 14, 15] 57894719456399567256583728884820902105728200544033100256571557823107733454848 (by kernel_rfl)]
    repeat ((with_reducible refine WDM_cons ?_; simp only [dw1]; try simp only [dw2, zrA, zrM, zrR, zrO, zrE]); simp only [core, zrA, zrS, zrM, zrL, zrE, reduceCtorEq, zrD, ziE, ziL, ziN, cored, hn, g1, g18, g19, LQA, LBA, LCA, lQA, lBA, lCA, o1, o2, o3, p1, p2, p3, ← hhB])
    have Q2 := (eB.2 _ lQA).trans QA
    have B2 := (eB.2 _ lBA).trans BA
    have C2 := (eB.2 _ lCA).trans C0
    have X2 : hB.at (h.n + 1) = some (.cells [.lit (.bool false), .lit (.bool false), .lit (.int .i64 0), .lit (.int .i64 0), .lit (.int .i64 0), .lit (.int .i64 0)] 57) := hhB ▸ nA ▸ (at_push_lt _ (by rw [n_push]; omega)).trans (at_push_n _ _)
    have Y2 : hB.at (h.n + 2) = some (.cells [.lit (.bool false), .lit (.bool false), .lit (.int .i64 0), .lit (.int .i64 0), .lit (.int .i64 0), .lit (.int .i64 0)] 57) := by
      have := at_push_n (hA.push (.cells [.lit (.bool false), .lit (.bool false), .lit (.int .i64 0), .lit (.int .i64 0), .lit (.int .i64 0), .lit (.int .i64 0)] 57)) (.cells [.lit (.bool false), .lit (.bool false), .lit (.int .i64 0), .lit (.int .i64 0), .lit (.int .i64 0), .lit (.int .i64 0)] 57)
      rw [n_push, nA, ← hhB] at this
      exact this
    have LQ2 := ld_at (T := tabOf Try.prog NT0) Q2
    have LB2 := ld_at (T := tabOf Try.prog NT0) B2
    have LC2 := ld_at (T := tabOf Try.prog NT0) C2
    have E2 : Ext q H hB := (EH.trans (eA.mono (by omega))).trans (eB.mono (by omega))
    have s2 := hm.p.isSl
    have s3 := hm.b.isSl
    have t2 := hm2.p.isSl
    have t3 := hm2.b.isSl
    refine ⟨by simp only [core, zrA, zrS, zrM, zrL, zrE, reduceCtorEq, zrD, ziE, ziL, ziN, cored, LQ2, LB2, LC2, same_agg, same_int, same_sl, same_one, s1, s2, s3, t1, t2, t3, o1, o2, o3, p1, p2, p3, List.zip_cons_cons, List.zip_nil_left, List.all_cons, List.all_nil], ?_⟩
    refine (osd_x i (hm.extQ E2) (by unfold Sm; omega)).mono ?_
    rintro _ h5 ⟨e5, rfl⟩
    have Q5 := (e5.2 _ (at_lt Q2)).trans Q2
    have B5 := (e5.2 _ (at_lt B2)).trans B2
    have C5 := (e5.2 _ (at_lt C2)).trans C2
    have LQ5 := ld_at (T := tabOf Try.prog NT0) Q5
    have LB5 := ld_at (T := tabOf Try.prog NT0) B5
    have LC5 := ld_at (T := tabOf Try.prog NT0) C5
    have E5 := E2.trans (e5.mono (by omega))
    rw [← hx]
    unfold osdV
    repeat ((with_reducible refine WDM_cons ?_; simp only [dw1]; try simp only [dw2, zrA, zrM, zrR, zrO, zrE]); simp only [core, zrA, zrS, zrM, zrL, zrE, reduceCtorEq, zrD, ziE, ziL, ziN, cored, hn, g1, g18, g19])
    refine ⟨by simp only [core, zrA, zrS, zrM, zrL, zrE, reduceCtorEq, zrD, ziE, ziL, ziN, cored, LQ5, LB5, LC5, same_agg, same_int, same_sl, same_one, s1, s2, s3, t1, t2, t3, o1, o2, o3, p1, p2, p3, List.zip_cons_cons, List.zip_nil_left, List.all_cons, List.all_nil], ?_⟩
    refine (osd_x i (hm2.extQ E5) (by unfold Sm; omega)).mono ?_
    rintro _ h6 ⟨e6, rfl⟩
    have Q6 := (e6.2 _ (at_lt Q5)).trans Q5
    have B6 := (e6.2 _ (at_lt B5)).trans B5
    have C6 := (e6.2 _ (at_lt C5)).trans C5
    have E6 := E5.trans (e6.mono (by have := e5.1; omega))
    have e56 : Ext hB.n hB h6 := e5.trans (e6.mono e5.1)
    have X6 := (e56.2 _ (at_lt X2)).trans X2
    have Y6 := (e56.2 _ (at_lt Y2)).trans Y2
    rw [← nA] at X6
    rw [show h.n + 2 = hA.n + 1 by omega] at Y6
    have lX6 := at_lt X6
    have lY6 := at_lt Y6
    rw [← hy]
    unfold osdV
    obtain ⟨hC, hhC⟩ : ∃ hC, hC = h6.put hA.n (.cells [.lit (.bool x.ex), .lit (.bool x.up), .lit (.int .i64 x.weight), .lit (.int .i64 x.boot), .lit (.int .i64 x.upFrom), .lit (.int .i64 x.upThru)] 57) := ⟨_, rfl⟩
    have nC : hC.n = h6.n := by rw [hhC, n_put]
    have YC := (show hC.at (hA.n + 1) = h6.at (hA.n + 1) by rw [hhC, at_put_ne _ (by omega)]).trans Y6
    have lYC := at_lt YC
    obtain ⟨hD, hhD⟩ : ∃ hD, hD = hC.put (hA.n + 1) (.cells [.lit (.bool y.ex), .lit (.bool y.up), .lit (.int .i64 y.weight), .lit (.int .i64 y.boot), .lit (.int .i64 y.upFrom), .lit (.int .i64 y.upThru)] 57) := ⟨_, rfl⟩
    have nD : hD.n = h6.n := by rw [hhD, n_put, nC]
    have J : DJ a b vo vp vb uo up ub q n0 H h.n hA.n (hA.n + 1) i y hD (xs ++ osL wP a b i) (oC' x) s' := by
      have e0 : Ext h.n h h6 := (eA.trans (eB.mono (by omega))).trans (e56.mono (by omega))
      refine ⟨?_, ?_, ?_, ?_, ?_, ?_, ?_, by have := at_lt B1; omega, by omega, by omega⟩
      · rw [hhD, at_put_ne _ (by omega), hhC, at_put_ne _ (by omega)]; exact Q6
      · rw [hhD, hhC]
        exact OwnL.putSep (OwnL.putSep (oC.ext e0 (Nat.le_refl _)) X6 (by decide) id) (hhC ▸ YC) (by decide) id
      · rw [hhD, hhC]; exact (E6.put _ (by omega)).put _ (by omega)
      · have := at_lt B1
        rw [hhD, at_put_ne _ (by omega), hhC, at_put_ne _ (by omega)]; exact B6
      · rw [hhD, at_put_ne _ (by omega), hhC, at_put_ne _ (by omega)]; exact C6
      · rw [hhD, at_put_ne _ (by omega), hhC]; exact at_put lX6
      · rw [hhD]; exact at_put lYC
    repeat ((with_reducible refine WDM_cons ?_; simp only [dw1]; try simp only [dw2, zrA, zrM, zrR, zrO, zrE]); simp only [core, zrA, zrS, zrM, zrL, zrE, reduceCtorEq, zrD, ziE, ziL, ziN, cored, hn, g1, g18, g19, X6, YC, lX6, lYC, ← hhC, ← hhD])
    obtain ⟨L0, hL0⟩ : ∃ L0, L0 = xs ++ osL wP a b i := ⟨_, rfl⟩
    have hL0n : L0.length ≤ xs.length + 4 * i := by rw [hL0, List.length_append]; omega
    rw [← hL0] at J
    clear hhC hhD hhA hhB
    with_reducible refine any_cut (P := Try.prog) (T := tabOf Try.prog NT0) (S := S0) (E := ⟨15, [], none, none⟩) (X := fun k K => WOp _ _ _ _ _ _ (_ :: _ :: k) K _) (fun t h' => (∃ s' u, DJ a b vo vp vb uo up ub q n0 H h.n hA.n (hA.n + 1) i y h' (L0 ++ (if (x.up && (!y.up || x.boot != y.boot)) = true then [chO 2 i x.boot] else [])) (oC' ⟨x.ex, u, x.weight, x.boot, x.upFrom, x.upThru⟩) s') ∧ t.n = 90 ∧ t.get 1 = .ptr H.n 0 ∧ t.get 2 = .ptr h.n 0 ∧ t.get 3 = .ptr hA.n 0 ∧ t.get 4 = .ptr (hA.n + 1) 0 ∧ t.get 5 = .fn (.func 34) [] [.ptr H.n 0, .ptr h.n 0] ∧ t.get 18 = .lit (.int .i64 N) ∧ t.get 19 = .lit (.int .i64 i)) (fun k' K' hk => ?_) ?_
    · have LX := ld_at (T := tabOf Try.prog NT0) J.X
      have LY := ld_at (T := tabOf Try.prog NT0) J.Y
      unfold oC' at LX LY
      have fin0 : (x.up && (!y.up || x.boot != y.boot)) = false → ∀ t, t.n = 90 ∧ t.get 1 = .ptr H.n 0 ∧ t.get 2 = .ptr h.n 0 ∧ t.get 3 = .ptr hA.n 0 ∧ t.get 4 = .ptr (hA.n + 1) 0 ∧ t.get 5 = .fn (.func 34) [] [.ptr H.n 0, .ptr h.n 0] ∧ t.get 18 = .lit (.int .i64 N) ∧ t.get 19 = .lit (.int .i64 i) → WB Try.prog (tabOf Try.prog NT0) S0 ⟨15, [], none, none⟩ t k' hD K' := fun hf t ht => hk _ _ ⟨⟨s', x.up, by rw [if_neg (by rw [hf]; decide), List.append_nil]; exact J⟩, ht⟩
      have calls : (x.up && (!y.up || x.boot != y.boot)) = true → WC Try.prog (tabOf Try.prog NT0) S0 34 [.lit (.int .i64 2), .lit (.int .i64 x.boot), .ptr H.n 0, .ptr h.n 0] hD fun r h' => r = .tup [] ∧ ∃ s3, DJ a b vo vp vb uo up ub q n0 H h.n hA.n (hA.n + 1) i y h' (L0 ++ (if (x.up && (!y.up || x.boot != y.boot)) = true then [chO 2 i x.boot] else [])) (oC' x) s3 := fun ht => by
        rw [if_pos ht]
        exact DJ.add J q0 hn0 ⟨by unfold I64; decide, iI, okx.2.1⟩ (by omega)
      have fin1 : ∀ h3 s3 t, DJ a b vo vp vb uo up ub q n0 H h.n hA.n (hA.n + 1) i y h3 (L0 ++ (if (x.up && (!y.up || x.boot != y.boot)) = true then [chO 2 i x.boot] else [])) (oC' x) s3 → t.n = 90 ∧ t.get 1 = .ptr H.n 0 ∧ t.get 2 = .ptr h.n 0 ∧ t.get 3 = .ptr hA.n 0 ∧ t.get 4 = .ptr (hA.n + 1) 0 ∧ t.get 5 = .fn (.func 34) [] [.ptr H.n 0, .ptr h.n 0] ∧ t.get 18 = .lit (.int .i64 N) ∧ t.get 19 = .lit (.int .i64 i) → WB Try.prog (tabOf Try.prog NT0) S0 ⟨15, [], none, none⟩ t k' (h3.put hA.n (.cells [.lit (.bool x.ex), .lit (.bool false), .lit (.int .i64 x.weight), .lit (.int .i64 x.boot), .lit (.int .i64 x.upFrom), .lit (.int .i64 x.upThru)] 57)) K' := fun h3 s3 t J3 ht => hk _ _ ⟨⟨s3, false, J3.put q0 hn0⟩, ht⟩
      cases hxu : x.up with
      | false =>
        simp only [core, zrA, zrS, zrM, zrL, zrE, reduceCtorEq, zrD, ziE, ziL, ziN, hn, g1, g18, g19, LX, LY, hxu, aundef]
        refine fin0 (by rw [hxu]; rfl) _ ?_
        simp only [core, zrA, zrS, zrM, zrL, zrE, reduceCtorEq, zrD, ziE, ziL, ziN, hn, g1, g18, g19]
      | true =>
        cases hyu : y.up with
        | false =>
          simp only [core, zrA, zrS, zrM, zrL, zrE, reduceCtorEq, zrD, ziE, ziL, ziN, hn, g1, g18, g19, LX, LY, hxu, hyu, aundef]
          refine (calls (by rw [hxu, hyu]; rfl)).mono ?_
          rintro _ h3 ⟨rfl, s3, J3⟩
          have lX3 := at_lt J3.X
          have X3 := J3.X
          unfold oC' at X3
          simp only [core, zrA, zrS, zrM, zrL, zrE, reduceCtorEq, zrD, ziE, ziL, ziN, hn, g1, g18, g19, X3, lX3, hxu]
          refine fin1 _ _ _ J3 ?_
          simp only [core, zrA, zrS, zrM, zrL, zrE, reduceCtorEq, zrD, ziE, ziL, ziN, hn, g1, g18, g19]
        | true =>
          by_cases hxy : (x.boot != y.boot) = true
          · simp only [core, zrA, zrS, zrM, zrL, zrE, reduceCtorEq, zrD, ziE, ziL, ziN, hn, g1, g18, g19, LX, LY, hxu, hyu, aundef, hxy]
            refine (calls (by rw [hxu, hyu, hxy]; rfl)).mono ?_
            rintro _ h3 ⟨rfl, s3, J3⟩
            have lX3 := at_lt J3.X
            have X3 := J3.X
            unfold oC' at X3
            simp only [core, zrA, zrS, zrM, zrL, zrE, reduceCtorEq, zrD, ziE, ziL, ziN, hn, g1, g18, g19, X3, lX3, hxu]
            refine fin1 _ _ _ J3 ?_
            simp only [core, zrA, zrS, zrM, zrL, zrE, reduceCtorEq, zrD, ziE, ziL, ziN, hn, g1, g18, g19]
          · have hxy := eq_false_of_ne_true hxy
            simp only [core, zrA, zrS, zrM, zrL, zrE, reduceCtorEq, zrD, ziE, ziL, ziN, hn, g1, g18, g19, LX, LY, hxu, hyu, aundef, hxy]
            refine fin0 (by rw [hxu, hyu, hxy]; rfl) _ ?_
            simp only [core, zrA, zrS, zrM, zrL, zrE, reduceCtorEq, zrD, ziE, ziL, ziN, hn, g1, g18, g19]
    rintro t h3 ⟨⟨s3, u, J3⟩, hn, g1, g2, g3, g4, g5, g18, g19⟩
    obtain ⟨L1, hL1⟩ : ∃ L1, L1 = L0 ++ (if (x.up && (!y.up || x.boot != y.boot)) = true then [chO 2 i x.boot] else []) := ⟨_, rfl⟩
    have hL1n : L1.length ≤ xs.length + 4 * i + 1 := by
      rw [hL1, List.length_append]
      split <;> simp <;> omega
    rw [← hL1] at J3
    rw [WB_seq]
    refine WB_cut (fun t h' => (∃ s', DJ a b vo vp vb uo up ub q n0 H h.n hA.n (hA.n + 1) i y h' (L1 ++ (if (y.ex && y.boot != x.boot) = true then [chO 1 i y.boot] else [])) (oC' ⟨x.ex, u, wP x y, x.boot, x.upFrom, x.upThru⟩) s') ∧ t.n = 90 ∧ t.get 1 = .ptr H.n 0 ∧ t.get 2 = .ptr h.n 0 ∧ t.get 3 = .ptr hA.n 0 ∧ t.get 4 = .ptr (hA.n + 1) 0 ∧ t.get 5 = .fn (.func 34) [] [.ptr H.n 0, .ptr h.n 0] ∧ t.get 18 = .lit (.int .i64 N) ∧ t.get 19 = .lit (.int .i64 i)) (fun k' K' hk => ?_) ?_
    · have LX := ld_at (T := tabOf Try.prog NT0) J3.X
      have LY := ld_at (T := tabOf Try.prog NT0) J3.Y
      unfold oC' at LX LY
      have wno : (y.ex && y.boot != x.boot) = false → wP x y = x.weight := fun hf => by
        unfold wP
        rw [if_neg]
        rintro ⟨⟨q1, q2⟩, -⟩
        rw [q1, bne_iff_ne.2 q2] at hf
        cases hf
      have fin0 : (y.ex && y.boot != x.boot) = false → ∀ t, t.n = 90 ∧ t.get 1 = .ptr H.n 0 ∧ t.get 2 = .ptr h.n 0 ∧ t.get 3 = .ptr hA.n 0 ∧ t.get 4 = .ptr (hA.n + 1) 0 ∧ t.get 5 = .fn (.func 34) [] [.ptr H.n 0, .ptr h.n 0] ∧ t.get 18 = .lit (.int .i64 N) ∧ t.get 19 = .lit (.int .i64 i) → WB Try.prog (tabOf Try.prog NT0) S0 ⟨15, [], none, none⟩ t k' h3 K' := fun hf t ht => hk _ _ ⟨⟨s3, by rw [if_neg (by rw [hf]; decide), List.append_nil, wno hf]; exact J3⟩, ht⟩
      cases hye : y.ex with
      | false =>
        simp only [core, zrA, zrS, zrM, zrL, zrE, reduceCtorEq, zrD, ziE, ziL, ziN, hn, g1, g2, g3, g4, g5, g18, g19, LX, LY, hye, aundef]
        refine fin0 (by rw [hye]; rfl) _ ?_
        simp only [core, zrA, zrS, zrM, zrL, zrE, reduceCtorEq, zrD, ziE, ziL, ziN, hn, g1, g2, g3, g4, g5, g18, g19]
      | true =>
        by_cases hxy : (y.boot != x.boot) = true
        · have hc1 : (y.ex && y.boot != x.boot) = true := by rw [hye, hxy]; rfl
          rw [if_pos hc1] at hk
          simp only [core, zrA, zrS, zrM, zrL, zrE, reduceCtorEq, zrD, ziE, ziL, ziN, hn, g1, g2, g3, g4, g5, g18, g19, LX, LY, hye, hxy, aundef]
          refine (J3.add (kind := 1) (value := y.boot) q0 hn0 ⟨by unfold I64; decide, iI, oky.2.1⟩ (by omega)).mono ?_
          rintro _ h4 ⟨rfl, s4, J4⟩
          have lX4 := at_lt J4.X
          have X4 := J4.X
          unfold oC' at X4
          have LX4 := ld_at (T := tabOf Try.prog NT0) X4
          cases hxe : x.ex with
          | true =>
            simp only [core, zrA, zrS, zrM, zrL, zrE, reduceCtorEq, zrD, ziE, ziL, ziN, hn, g1, g2, g3, g4, g5, g18, g19, LX4, hxe]
            refine hk _ _ ⟨⟨s4, ?_⟩, ?_⟩
            · rw [show wP x y = x.weight by unfold wP; rw [if_neg (by rw [hxe]; rintro ⟨-, q⟩; cases q)]]
              exact J4
            · simp only [core, zrA, zrS, zrM, zrL, zrE, reduceCtorEq, zrD, ziE, ziL, ziN, hn, g1, g2, g3, g4, g5, g18, g19]
          | false =>
            simp only [core, zrA, zrS, zrM, zrL, zrE, reduceCtorEq, zrD, ziE, ziL, ziN, hn, g1, g2, g3, g4, g5, g18, g19, X4, LX4, lX4, hxe]
            refine hk _ _ ⟨⟨s4, ?_⟩, ?_⟩
            · rw [show wP x y = 65536 by unfold wP; rw [if_pos ⟨⟨hye, bne_iff_ne.1 hxy⟩, hxe⟩]]
              have := J4.put (xc' := oC' ⟨x.ex, u, 65536, x.boot, x.upFrom, x.upThru⟩) q0 hn0
              unfold oC' at this ⊢
              rw [hxe] at this ⊢
              exact this
            · simp only [core, zrA, zrS, zrM, zrL, zrE, reduceCtorEq, zrD, ziE, ziL, ziN, hn, g1, g2, g3, g4, g5, g18, g19]
        · have hxy := eq_false_of_ne_true hxy
          simp only [core, zrA, zrS, zrM, zrL, zrE, reduceCtorEq, zrD, ziE, ziL, ziN, hn, g1, g2, g3, g4, g5, g18, g19, LX, LY, hye, hxy, aundef]
          refine fin0 (by rw [hye, hxy]; rfl) _ ?_
          simp only [core, zrA, zrS, zrM, zrL, zrE, reduceCtorEq, zrD, ziE, ziL, ziN, hn, g1, g2, g3, g4, g5, g18, g19]
    rintro t h5 ⟨⟨s5, J5⟩, hn, g1, g2, g3, g4, g5, g18, g19⟩
    obtain ⟨L2, hL2⟩ : ∃ L2, L2 = (L1 ++ (if (y.ex && y.boot != x.boot) = true then [chO 1 i y.boot] else [])) := ⟨_, rfl⟩
    have hL2n : L2.length ≤ xs.length + 4 * i + 2 := by
      rw [hL2, List.length_append]
      split <;> simp <;> omega
    rw [← hL2] at J5
    rw [WB_seq]
    refine WB_cut (fun t h' => (∃ s', DJ a b vo vp vb uo up ub q n0 H h.n hA.n (hA.n + 1) i y h' (L2 ++ (if (wP x y != y.weight) = true then [chO 3 i y.weight] else [])) (oC' ⟨x.ex, u, wP x y, x.boot, x.upFrom, x.upThru⟩) s') ∧ t.n = 90 ∧ t.get 1 = .ptr H.n 0 ∧ t.get 2 = .ptr h.n 0 ∧ t.get 3 = .ptr hA.n 0 ∧ t.get 4 = .ptr (hA.n + 1) 0 ∧ t.get 5 = .fn (.func 34) [] [.ptr H.n 0, .ptr h.n 0] ∧ t.get 18 = .lit (.int .i64 N) ∧ t.get 19 = .lit (.int .i64 i)) (fun k' K' hk => ?_) ?_
    · have LX := ld_at (T := tabOf Try.prog NT0) J5.X
      have LY := ld_at (T := tabOf Try.prog NT0) J5.Y
      unfold oC' at LX LY
      by_cases ht : (wP x y != y.weight) = true
      · rw [if_pos ht] at hk
        simp only [core, zrA, zrS, zrM, zrL, zrE, reduceCtorEq, zrD, ziE, ziL, ziN, hn, g1, g2, g3, g4, g5, g18, g19, LX, LY, ht]
        refine (J5.add (kind := 3) (value := y.weight) q0 hn0 ⟨by unfold I64; decide, iI, oky.1⟩ (by omega)).mono ?_
        rintro _ h4 ⟨rfl, s4, J4⟩
        simp only [core, zrA, zrS, zrM, zrL, zrE, reduceCtorEq, zrD, ziE, ziL, ziN, hn, g1, g2, g3, g4, g5, g18, g19]
        refine hk _ _ ⟨⟨s4, J4⟩, ?_⟩
        simp only [core, zrA, zrS, zrM, zrL, zrE, reduceCtorEq, zrD, ziE, ziL, ziN, hn, g1, g2, g3, g4, g5, g18, g19]
      · rw [if_neg ht, List.append_nil] at hk
        have ht := eq_false_of_ne_true ht
        simp only [core, zrA, zrS, zrM, zrL, zrE, reduceCtorEq, zrD, ziE, ziL, ziN, hn, g1, g2, g3, g4, g5, g18, g19, LX, LY, ht]
        refine hk _ _ ⟨⟨_, J5⟩, ?_⟩
        simp only [core, zrA, zrS, zrM, zrL, zrE, reduceCtorEq, zrD, ziE, ziL, ziN, hn, g1, g2, g3, g4, g5, g18, g19]
    rintro t h6' ⟨⟨s6, J6⟩, hn, g1, g2, g3, g4, g5, g18, g19⟩
    obtain ⟨L3, hL3⟩ : ∃ L3, L3 = (L2 ++ (if (wP x y != y.weight) = true then [chO 3 i y.weight] else [])) := ⟨_, rfl⟩
    have hL3n : L3.length ≤ xs.length + 4 * i + 3 := by
      rw [hL3, List.length_append]
      split <;> simp <;> omega
    rw [← hL3] at J6
    refine WB_cut (fun t h' => (∃ s', DJ a b vo vp vb uo up ub q n0 H h.n hA.n (hA.n + 1) i y h' (L3 ++ (if (x.upThru != y.upThru) = true then [chO 4 i y.upThru] else [])) (oC' ⟨x.ex, u, wP x y, x.boot, x.upFrom, x.upThru⟩) s') ∧ t.n = 90 ∧ t.get 1 = .ptr H.n 0 ∧ t.get 2 = .ptr h.n 0 ∧ t.get 3 = .ptr hA.n 0 ∧ t.get 4 = .ptr (hA.n + 1) 0 ∧ t.get 5 = .fn (.func 34) [] [.ptr H.n 0, .ptr h.n 0] ∧ t.get 18 = .lit (.int .i64 N) ∧ t.get 19 = .lit (.int .i64 i)) (fun k' K' hk => ?_) ?_
    · have LX := ld_at (T := tabOf Try.prog NT0) J6.X
      have LY := ld_at (T := tabOf Try.prog NT0) J6.Y
      unfold oC' at LX LY
      by_cases ht : (x.upThru != y.upThru) = true
      · rw [if_pos ht] at hk
        simp only [core, zrA, zrS, zrM, zrL, zrE, reduceCtorEq, zrD, ziE, ziL, ziN, hn, g1, g2, g3, g4, g5, g18, g19, LX, LY, ht]
        refine (J6.add (kind := 4) (value := y.upThru) q0 hn0 ⟨by unfold I64; decide, iI, oky.2.2.2⟩ (by omega)).mono ?_
        rintro _ h4 ⟨rfl, s4, J4⟩
        simp only [core, zrA, zrS, zrM, zrL, zrE, reduceCtorEq, zrD, ziE, ziL, ziN, hn, g1, g2, g3, g4, g5, g18, g19]
        refine hk _ _ ⟨⟨s4, J4⟩, ?_⟩
        simp only [core, zrA, zrS, zrM, zrL, zrE, reduceCtorEq, zrD, ziE, ziL, ziN, hn, g1, g2, g3, g4, g5, g18, g19]
      · rw [if_neg ht, List.append_nil] at hk
        have ht := eq_false_of_ne_true ht
        simp only [core, zrA, zrS, zrM, zrL, zrE, reduceCtorEq, zrD, ziE, ziL, ziN, hn, g1, g2, g3, g4, g5, g18, g19, LX, LY, ht]
        refine hk _ _ ⟨⟨_, J6⟩, ?_⟩
        simp only [core, zrA, zrS, zrM, zrL, zrE, reduceCtorEq, zrD, ziE, ziL, ziN, hn, g1, g2, g3, g4, g5, g18, g19]
    rintro t h7 ⟨⟨s7, J7⟩, hn, g1, g2, g3, g4, g5, g18, g19⟩
    simp only [core, zrA, zrS, zrM, zrL, zrE, reduceCtorEq, zrD, ziE, ziL, ziN, hn, g1, g2, g3, g4, g5, g18, g19, hwi]
    refine ih _ _ ⟨⟨s7, J7.Q, ?_, J7.E, J7.B⟩, ?_⟩
    · have e : xs ++ osL wP a b (i + 1) = (L3 ++ (if (x.upThru != y.upThru) = true then [chO 4 i y.upThru] else [])) := by
        show xs ++ (osL wP a b i ++ oneC (wP (osdG a i) (osdG b i)) (osdG a i) (osdG b i) i) = _
        rw [hL3, hL2, hL1, hL0, ← hx, ← hy, oneC_eq]
        simp only [List.append_assoc]
      rw [e]
      exact J7.o
    · simp only [core, zrA, zrS, zrM, zrL, zrE, reduceCtorEq, zrD, ziE, ziL, ziN, hn, g1, g2, g3, g4, g5, g18, g19]
  · rintro t h hc ⟨⟨s', Q1, oC, EH, B1⟩, hn, g1, g18, g19⟩
    simp only [core, zrA, zrS, zrM, zrL, zrE, reduceCtorEq, zrD, ziE, ziL, ziN, hn, g1, g18, g19, hc]
    exact ⟨.inl trivial, EH, s', Q1, oC⟩
  · refine ⟨⟨s, Q0, ?_, EB.mono (by omega), B0⟩, ?_⟩
    · simpa only [osL, List.append_nil] using ho.ext EB (Nat.le_refl _)
    · simp only [core, zrA, zrS, zrM, zrL, zrE, reduceCtorEq, zrD, ziE, ziL, ziN, hmx]
      first | done | exact ⟨rfl, rfl⟩ | trivial
end Go.Proofs.Ytmfhagahkkhbeaa.Ex
end

section

set_option linter.unusedSimpArgs false
set_option linter.unusedVariables false
set_option maxRecDepth 10000
set_option maxHeartbeats 4000000
namespace Go.Proofs.Ytmfhagahkkhbeaa.Ex
open Go
def chB (b : BktD) : ChD := ⟨6, 0, 0, pool0, b⟩
def chG (b : MapD) (x : BktD) : List ChD := if (bucketF b x.id).isSome = true then [] else [chB ⟨x.id, 0, [], []⟩]
def chK (a : MapD) (k : Int) (y : BktD) : List ChD := if y.kind = k ∧ ¬ ((bucketF a y.id).isSome = true ∧ sameB (bucketG a y.id) y = true) then [chB y] else []
def bkN (a b : MapD) : Nat → List ChD
  | 0 => []
  | n + 1 => bkN a b n ++ b.buckets.flatMap (chK a ((n : Int) + 1))
def bkL (a b : MapD) : List ChD := a.buckets.flatMap (chG b) ++ bkN a b 3
theorem chG_len (b : MapD) (x : BktD) : (chG b x).length ≤ 1 := by unfold chG; split <;> simp
theorem chK_len (a : MapD) (k : Int) (y : BktD) : (chK a k y).length ≤ 1 := by unfold chK; split <;> simp
theorem fm_len {α β : Type} {f : α → List β} (hf : ∀ x, (f x).length ≤ 1) : ∀ l : List α, (l.flatMap f).length ≤ l.length
  | [] => Nat.le_refl _
  | x :: r => by
    have := fm_len hf r
    have := hf x
    rw [List.flatMap_cons, List.length_append, List.length_cons]
    omega
theorem bkN_len (a b : MapD) : ∀ n, (bkN a b n).length ≤ n * b.buckets.length
  | 0 => by simp [bkN]
  | n + 1 => by
    have h1 := bkN_len a b n
    have h2 := fm_len (chK_len a ((n : Int) + 1)) b.buckets
    unfold bkN
    rw [List.length_append, Nat.succ_mul]
    omega
theorem fm_succ {α β : Type} {f : α → List β} {l : List α} {i : Nat} {x : α} (hx : l[i]? = some x) : (l.take (i + 1)).flatMap f = (l.take i).flatMap f ++ f x := by
  rw [List.take_add_one, hx]
  simp
theorem OwnL.monoG {α : Type} {R : Rep α} {G G' : Nat → Prop} {n0 : Nat} {h : AH} {v : AV} {e : TypeId} {xs : List α} (ho : OwnL R G n0 h v e xs) (hG : ∀ k, G k → G' k) : OwnL R G' n0 h v e xs := by
  obtain ⟨L, h1, h2⟩ := ho
  exact ⟨L, h1, h2.lift fun b hb _ => ⟨rfl, hG b hb.1, hb.2⟩⟩
/-- What stands at a round's beginning. -/
structure BJ (a b : MapD) (vo vp vb uo up ub : AV) (q n0 : Nat) (H : AH) (h : AH) (l : List ChD) (s : AV) : Prop where
  Q : h.at q = some (dfC a b vo vp vb uo up ub s)
  o : OwnC (fun k => n0 ≤ k) n0 h s l
  E : Ext q H h
theorem BJ.ext {a b : MapD} {vo vp vb uo up ub s : AV} {q n0 : Nat} {H h h' : AH} {l : List ChD} (j : BJ a b vo vp vb uo up ub q n0 H h l s) (e : Ext h.n h h') : BJ a b vo vp vb uo up ub q n0 H h' l s :=
  ⟨(e.2 _ (at_lt j.Q)).trans j.Q, j.o.ext e (Nat.le_refl _), j.E.trans (e.mono (by have := at_lt j.Q; omega))⟩
theorem BJ.pushed {a b : MapD} {vo vp vb uo up ub s s2 : AV} {q n0 : Nat} {H h h1 h' : AH} {l l' : List ChD} (j : BJ a b vo vp vb uo up ub q n0 H h l s) (q0 : q < n0) (e : Ext h.n h h1) (o' : OwnC (fun k => n0 ≤ k) n0 h' s2 l') (f' : Fr h1 s h' s2) :
    h'.at q = some (dfC a b vo vp vb uo up ub s) ∧ BJ a b vo vp vb uo up ub q n0 H (h'.put q (dfC a b vo vp vb uo up ub s2)) l' s2 := by
  have fr : Fr h s h' s2 := (Fr.ext e).trans f'
  have g3 := (fr.box j.Q (j.o.apartLt q0)).1
  have hqn := at_lt j.Q
  refine ⟨g3, at_put (at_lt g3), o'.putSep g3 (by decide) (by omega), j.E.trans ⟨by rw [n_put]; exact fr.1, fun k hk => ?_⟩⟩
  rw [at_put_ne _ (by omega)]
  exact (fr.2 k (by omega) (j.o.apartLt (by omega))).1
theorem buckets_x {H : AH} {a b : MapD} {vo vp vb uo up ub s : AV} {q n0 : Nat} {xs : List ChD} (j0 : BJ a b vo vp vb uo up ub q n0 H H xs s) (hm : MpAt (fun k => k < q) H a vo vp vb) (hm2 : MpAt (fun k => k < q) H b uo up ub)
    (q0 : q < n0) (hn0 : n0 ≤ H.n) (oka : OkMp a) (okb : OkMp b) (hl : (xs.length + (a.buckets.length + 3 * b.buckets.length)) * 120 ≤ 140737488355328) :
    WC Try.prog (tabOf Try.prog NT0) S0 18 [.ptr q 0] H fun r h' => r = .tup [] ∧ ∃ s', BJ a b vo vp vb uo up ub q n0 H h' (xs ++ bkL a b) s' := by
  refine WC_fn Try.func18 rfl rfl ?_
  have o1 := hm.o.one
  have o2 := hm.p.one
  have o3 := hm.b.one
  have p1 := hm2.o.one
  have p2 := hm2.p.one
  have p3 := hm2.b.one
  have s1 := hm.o.isSl
  have s2 := hm.p.isSl
  have s3 := hm.b.isSl
  have t1 := hm2.o.isSl
  have t2 := hm2.p.isSl
  have t3 := hm2.b.isSl
  have d3 := hm.b.lenD
  have e3 := hm2.b.lenD
  obtain ⟨-, -, la, ha⟩ := id oka
  obtain ⟨-, -, lb, hb⟩ := id okb
  have la' := la
  have lb' := lb
  unfold Sm at la' lb'
  have Q0 := j0.Q
  unfold dfC at Q0
  have LQ0 := ld_at (T := tabOf Try.prog NT0) Q0
  have lQ0 := at_lt Q0
  obtain ⟨M, hM⟩ : ∃ M, M = a.buckets.length := ⟨_, rfl⟩
  obtain ⟨N, hN⟩ : ∃ N, N = b.buckets.length := ⟨_, rfl⟩
  rw [← hM] at d3
  rw [← hN] at e3
  simp only [core, zrA, zrS, zrM, zrL, zrE, reduceCtorEq, zrD, ziE, ziL, ziN, Try.ntmps18, LQ0, lQ0, s3, d3]
  refine WB_for M (fun i t h => (∃ s', BJ a b vo vp vb uo up ub q n0 H h (xs ++ (a.buckets.take i).flatMap (chG b)) s') ∧ t.n = 98 ∧ t.get 0 = .ptr q 0 ∧ t.get 15 = vb ∧ t.get 16 = .lit (.int .i64 M) ∧ t.get 17 = .lit (.int .i64 i)) ?_ ?_ _ _ ?_
  · rintro i t h hlt hc ⟨⟨s', j⟩, hn, g0, g15, g16, g17⟩ ih
    have hwi := wrap_succ (n := M) hlt (by omega)
    have hlen := fm_len (chG_len b) (a.buckets.take i)
    rw [List.length_take] at hlen
    obtain ⟨x, hx⟩ : ∃ x, a.buckets[i]? = some x := ⟨_, List.getElem?_eq_getElem (by omega)⟩
    have f1 := j.E.1
    obtain ⟨cx, hcx, ld1, ld1'⟩ := (hm.extQ j.E).b.at (T := tabOf Try.prog NT0) RBkt_z hx
    obtain ⟨va, vw, rfl, xa, xw, ix⟩ := RBkt_is.1 hcx
    have y1 := xa.one
    have y2 := xw.one
    obtain ⟨hA, hhA⟩ : ∃ hA, hA = h.push (.cells [.lit (.int .i64 x.id), .lit (.int .i64 x.kind), va, vw] 50) := ⟨_, rfl⟩
    have eA : Ext h.n h hA := hhA ▸ (Ext.refl _ _).push _ (Nat.le_refl _)
    have nA : hA.n = h.n + 1 := by rw [hhA, n_push]
    have A0 : hA.at h.n = some (.cells [.lit (.int .i64 x.id), .lit (.int .i64 x.kind), va, vw] 50) := hhA ▸ at_push_n _ _
    have jA := j.ext eA
    have QA := jA.Q
    unfold dfC at QA
    have LQA := ld_at (T := tabOf Try.prog NT0) QA
    have lQA := at_lt QA
    have LA0 := ld_at (T := tabOf Try.prog NT0) A0
    have lA0 := at_lt A0
    simp only [core, zrA, zrS, zrM, zrL, zrE, reduceCtorEq, zrD, ziE, ziL, ziN, hn, g0, g15, g16, g17, hlt, hc, s3, d3, ld1, ld1', y1, y2, ← hhA]
    rw [WB_regionD [0, 1, 2, 3, 4, 5, 10, 6, 7, 8, 9, 11, 12] 374070191126360212195711264472873151251682665963520 (by kernel_rfl)]
    repeat ((with_reducible refine WDM_cons ?_; simp only [dw1]; try simp only [dw2, zrA, zrM, zrR, zrO, zrE]); simp only [core, zrA, zrS, zrM, zrL, zrE, reduceCtorEq, zrD, ziE, ziL, ziN, cored, hn, g0, g15, g16, g17, LQA, LA0, lQA, lA0, o1, o2, o3, p1, p2, p3])
    obtain ⟨hB, hhB⟩ : ∃ hB, hB = hA.push (.cells [.lit (.int .i64 0), .lit (.int .i64 0), .lit (.slice none 0 0), .lit (.slice none 0 0)] 50) := ⟨_, rfl⟩
    have eB : Ext hA.n hA hB := hhB ▸ (Ext.refl _ _).push _ (Nat.le_refl _)
    have B0 : hB.at hA.n = some (.cells [.lit (.int .i64 0), .lit (.int .i64 0), .lit (.slice none 0 0), .lit (.slice none 0 0)] 50) := hhB ▸ at_push_n _ _
    have nB : hB.n = h.n + 2 := by rw [hhB, n_push, nA]
    have jB := jA.ext eB
    rw [← hhB]
    refine ⟨by simp only [same_sl, t1, t2, t3, Bool.and_self], ?_⟩
    refine (bucket_x x.id (hm2.extQ jB.E) lb hb).mono ?_
    rintro _ h3 ⟨e3, wa, ww, rfl, ya, yw⟩
    have j3 := jB.ext e3
    have B3 := (e3.2 _ (at_lt B0)).trans B0
    have lB3 := at_lt B3
    have y3 := ya.one
    have y4 := yw.one
    have f3 := e3.1
    obtain ⟨hC, hhC⟩ : ∃ hC, hC = h3.put hA.n (.cells [.lit (.int .i64 (bucketG b x.id).id), .lit (.int .i64 (bucketG b x.id).kind), wa, ww] 50) := ⟨_, rfl⟩
    have nC : hC.n = h3.n := by rw [hhC, n_put]
    have eC : Ext h.n h hC := hhC ▸ ((eA.trans (eB.mono (by omega))).trans (e3.mono (by omega))).put _ (by omega)
    have jC := j.ext eC
    have A3 : hC.at h.n = some (.cells [.lit (.int .i64 x.id), .lit (.int .i64 x.kind), va, vw] 50) := by
      rw [hhC, at_put_ne _ (by omega), e3.2 _ (by omega), eB.2 _ (by omega)]
      exact A0
    have LA3 := ld_at (T := tabOf Try.prog NT0) A3
    have lA3 := at_lt A3
    have QC := jC.Q
    unfold dfC at QC
    have LQC := ld_at (T := tabOf Try.prog NT0) QC
    have lQC := at_lt QC
    have os := jC.o.isSl
    have o1' := jC.o.one
    unfold bktV
    have hfs : (a.buckets.take (i + 1)).flatMap (chG b) = (a.buckets.take i).flatMap (chG b) ++ chG b x := fm_succ hx
    cases hsm : (bucketF b x.id).isSome with
    | true =>
      rw [show chG b x = [] by unfold chG; rw [if_pos hsm], List.append_nil] at hfs
      repeat (first | ((with_reducible refine WDM_cons ?_; simp only [dw1]; try simp only [dw2, zrA, zrM, zrR, zrO, zrE]); simp only [core, zrA, zrS, zrM, zrL, zrE, reduceCtorEq, zrD, ziE, ziL, ziN, cored, hn, g0, g15, g16, g17, B3, lB3, y3, y4, ← hhC, hwi, hsm]) | simp only [core, zrA, zrS, zrM, zrL, zrE, reduceCtorEq, zrD, ziE, ziL, ziN, cored, hn, g0, g15, g16, g17, B3, lB3, y3, y4, ← hhC, hwi, hsm])
      refine ih _ _ ⟨⟨s', by rw [hfs]; exact jC⟩, ?_⟩
      simp only [core, zrA, zrS, zrM, zrL, zrE, reduceCtorEq, zrD, ziE, ziL, ziN, hn, g0, g15, g16, g17]
    | false =>
      rw [show chG b x = [chB ⟨x.id, 0, [], []⟩] by unfold chG; rw [if_neg (by rw [hsm]; decide)]] at hfs
      repeat (first | ((with_reducible refine WDM_cons ?_; simp only [dw1]; try simp only [dw2, zrA, zrM, zrR, zrO, zrE]); simp only [core, zrA, zrS, zrM, zrL, zrE, reduceCtorEq, zrD, ziE, ziL, ziN, cored, hn, g0, g15, g16, g17, B3, lB3, y3, y4, ← hhC, hwi, hsm]) | simp only [core, zrA, zrS, zrM, zrL, zrE, reduceCtorEq, zrD, ziE, ziL, ziN, cored, hn, g0, g15, g16, g17, B3, lB3, y3, y4, ← hhC, hwi, hsm])
      rw [WB_regionD [0, 1, 2, 3, 4, 5, 6, 7, 8, 9, 10, 11, 12, 13] 50212216069073070219840294587843871683805965309079510319104 (by kernel_rfl)]
      repeat ((with_reducible refine WDM_cons ?_; simp only [dw1]; try simp only [dw2, zrA, zrM, zrR, zrO, zrE]); simp only [core, zrA, zrS, zrM, zrL, zrE, reduceCtorEq, zrD, ziE, ziL, ziN, cored, hn, g0, g15, g16, g17, LQC, LA3, lQC, lA3, os, o1'])
      have e6 : Ext hC.n hC (hC.push (cC (chB ⟨x.id, 0, [], []⟩) (.lit (.slice none 0 0)) (.lit (.slice none 0 0)))) := (Ext.refl _ _).push _ (Nat.le_refl _)
      refine WOpD_app (push_ch (x := chB ⟨x.id, 0, [], []⟩) (jC.o.ext e6 (Nat.le_refl _)) (by rw [n_push]; omega) (at_push_n hC _) .nil .nil ⟨⟨by show I64 6; unfold I64; decide, I64z, I64z⟩, okp0, ix.1, I64z⟩ (by rw [List.length_append]; omega)) ?_
      rintro s6 h6 ⟨o6, f6⟩
      obtain ⟨Q6, j6⟩ := jC.pushed q0 e6 o6 f6
      unfold dfC at Q6
      have lQ6 := at_lt Q6
      have u1 := o6.isSl
      have u2 := o6.one
      repeat (first | ((with_reducible refine WDM_cons ?_; simp only [dw1]; try simp only [dw2, zrA, zrM, zrR, zrO, zrE]); simp only [core, zrA, zrS, zrM, zrL, zrE, reduceCtorEq, zrD, ziE, ziL, ziN, cored, hn, g0, g15, g16, g17, Q6, lQ6, u1, u2, hwi]) | simp only [core, zrA, zrS, zrM, zrL, zrE, reduceCtorEq, zrD, ziE, ziL, ziN, cored, hn, g0, g15, g16, g17, Q6, lQ6, u1, u2, hwi])
      refine ih _ _ ⟨⟨s6, ?_⟩, ?_⟩
      · rw [hfs, ← List.append_assoc]
        exact j6
      · simp only [core, zrA, zrS, zrM, zrL, zrE, reduceCtorEq, zrD, ziE, ziL, ziN, hn, g0, g15, g16, g17]
  · rintro t h hc ⟨⟨s', j⟩, hn, g0, g15, g16, g17⟩
    rw [List.take_of_length_le (by omega)] at j
    simp only [core, zrA, zrS, zrM, zrL, zrE, reduceCtorEq, zrD, ziE, ziL, ziN, hn, g0, g15, g16, g17, hc]
    obtain ⟨L0, hL0⟩ : ∃ L0, L0 = xs ++ a.buckets.flatMap (chG b) := ⟨_, rfl⟩
    have hL0n : L0.length ≤ xs.length + M := by
      have := fm_len (chG_len b) a.buckets
      rw [hL0, List.length_append]
      omega
    rw [← hL0] at j
    refine WB_ind (fun (k : Nat) t h' => k ≤ 3 ∧ (∃ s', BJ a b vo vp vb uo up ub q n0 H h' (L0 ++ bkN a b k) s') ∧ t.n = 98 ∧ t.get 0 = .ptr q 0 ∧ t.get 6 = .lit (.int .i64 ((k : Int) + 1))) (fun k => 4 - k) ?_ 0 _ _ ?_
    · rintro k t h ⟨hk3, ⟨s', j⟩, hn, g0, g6⟩ ih
      have hbn := bkN_len a b k
      rw [← hN] at hbn
      have Q1 := j.Q
      unfold dfC at Q1
      have LQ1 := ld_at (T := tabOf Try.prog NT0) Q1
      have lQ1 := at_lt Q1
      by_cases hk4 : k = 3
      · subst hk4
        have hc1 : ((((3 : Nat) : Int) + 1) ≤ 3) = False := by decide
        simp only [core, zrA, zrS, zrM, zrL, zrE, reduceCtorEq, zrD, ziE, ziL, ziN, hn, g0, g6, hc1]
        refine ⟨.inl trivial, s', ?_⟩
        rw [show xs ++ bkL a b = L0 ++ bkN a b 3 by rw [hL0]; unfold bkL; rw [List.append_assoc]]
        exact j
      have hc1 : (((k : Int) + 1) ≤ 3) = True := by simp only [eq_iff_iff, iff_true]; omega
      have hwk : IntKind.i64.wrap ((k : Int) + 1 + 1) = (((k + 1 : Nat) : Int) + 1) := (wrap_in (by omega) (by omega)).trans (by omega)
      obtain ⟨L1, hL1⟩ : ∃ L1, L1 = L0 ++ bkN a b k := ⟨_, rfl⟩
      have hL1n : L1.length ≤ xs.length + M + k * N := by rw [hL1, List.length_append]; omega
      have hkN : k * N ≤ 2 * N := Nat.mul_le_mul_right _ (by omega)
      rw [← hL1] at j
      simp only [core, zrA, zrS, zrM, zrL, zrE, reduceCtorEq, zrD, ziE, ziL, ziN, hn, g0, g6, hc1, LQ1, lQ1, t3, e3]
      refine WB_for N (fun i t h => (∃ s', BJ a b vo vp vb uo up ub q n0 H h (L1 ++ (b.buckets.take i).flatMap (chK a ((k : Int) + 1))) s') ∧ t.n = 98 ∧ t.get 0 = .ptr q 0 ∧ t.get 6 = .lit (.int .i64 ((k : Int) + 1)) ∧ t.get 55 = ub ∧ t.get 56 = .lit (.int .i64 N) ∧ t.get 57 = .lit (.int .i64 i)) ?_ ?_ _ _ ?_
      · rintro i t h hlt hc ⟨⟨s', j⟩, hn, g0, g6, g55, g56, g57⟩ ih2
        have hwi := wrap_succ (n := N) hlt (by omega)
        have hlen := fm_len (chK_len a ((k : Int) + 1)) (b.buckets.take i)
        rw [List.length_take] at hlen
        obtain ⟨y, hy⟩ : ∃ y, b.buckets[i]? = some y := ⟨_, List.getElem?_eq_getElem (by omega)⟩
        have hym := List.mem_of_getElem? hy
        have f1 := j.E.1
        obtain ⟨cx, hcx, ld1, ld1'⟩ := (hm2.extQ j.E).b.at (T := tabOf Try.prog NT0) RBkt_z hy
        obtain ⟨va, vw, rfl, xa, xw, ix⟩ := RBkt_is.1 hcx
        have y1 := xa.one
        have y2 := xw.one
        have z1 := xa.isSl
        have z2 := xw.isSl
        obtain ⟨hA, hhA⟩ : ∃ hA, hA = h.push (.cells [.lit (.int .i64 y.id), .lit (.int .i64 y.kind), va, vw] 50) := ⟨_, rfl⟩
        have eA : Ext h.n h hA := hhA ▸ (Ext.refl _ _).push _ (Nat.le_refl _)
        have nA : hA.n = h.n + 1 := by rw [hhA, n_push]
        have A0 : hA.at h.n = some (.cells [.lit (.int .i64 y.id), .lit (.int .i64 y.kind), va, vw] 50) := hhA ▸ at_push_n _ _
        have jA := j.ext eA
        have QA := jA.Q
        unfold dfC at QA
        have LQA := ld_at (T := tabOf Try.prog NT0) QA
        have lQA := at_lt QA
        have LA0 := ld_at (T := tabOf Try.prog NT0) A0
        have lA0 := at_lt A0
        obtain ⟨hB, hhB⟩ : ∃ hB, hB = hA.push (.cells [.lit (.int .i64 0), .lit (.int .i64 0), .lit (.slice none 0 0), .lit (.slice none 0 0)] 50) := ⟨_, rfl⟩
        have eB : Ext hA.n hA hB := hhB ▸ (Ext.refl _ _).push _ (Nat.le_refl _)
        have B0 : hB.at hA.n = some (.cells [.lit (.int .i64 0), .lit (.int .i64 0), .lit (.slice none 0 0), .lit (.slice none 0 0)] 50) := hhB ▸ at_push_n _ _
        have nB : hB.n = h.n + 2 := by rw [hhB, n_push, nA]
        have jB := jA.ext eB
        simp only [core, zrA, zrS, zrM, zrL, zrE, reduceCtorEq, zrD, ziE, ziL, ziN, hn, g0, g6, g55, g56, g57, hlt, hc, t3, e3, ld1, ld1', y1, y2, ← hhA]
        rw [WB_regionD [0, 1, 2, 3, 4, 5, 10, 6, 7, 8, 9, 11, 12] 374070191126360212195711264472873151251682665963520 (by kernel_rfl)]
        repeat ((with_reducible refine WDM_cons ?_; simp only [dw1]; try simp only [dw2, zrA, zrM, zrR, zrO, zrE]); simp only [core, zrA, zrS, zrM, zrL, zrE, reduceCtorEq, zrD, ziE, ziL, ziN, cored, hn, g0, g6, g55, g56, g57, LQA, LA0, lQA, lA0, o1, o2, o3, p1, p2, p3])
        rw [← hhB]
        refine ⟨by simp only [same_sl, s1, s2, s3, Bool.and_self], ?_⟩
        refine (bucket_x y.id (hm.extQ jB.E) la ha).mono ?_
        rintro _ h3 ⟨e3', wa, ww, rfl, ya, yw⟩
        have j3 := jB.ext e3'
        have B3 := (e3'.2 _ (at_lt B0)).trans B0
        have lB3 := at_lt B3
        have y3 := ya.one
        have y4 := yw.one
        have z3 := ya.isSl
        have z4 := yw.isSl
        have f3 := e3'.1
        obtain ⟨hC, hhC⟩ : ∃ hC, hC = h3.put hA.n (.cells [.lit (.int .i64 (bucketG a y.id).id), .lit (.int .i64 (bucketG a y.id).kind), wa, ww] 50) := ⟨_, rfl⟩
        have nC : hC.n = h3.n := by rw [hhC, n_put]
        have eC : Ext h.n h hC := hhC ▸ ((eA.trans (eB.mono (by omega))).trans (e3'.mono (by omega))).put _ (by omega)
        have jC := j.ext eC
        have A3 : hC.at h.n = some (.cells [.lit (.int .i64 y.id), .lit (.int .i64 y.kind), va, vw] 50) := by
          rw [hhC, at_put_ne _ (by omega), e3'.2 _ (by omega), eB.2 _ (by omega)]
          exact A0
        have BC : hC.at hA.n = some (.cells [.lit (.int .i64 (bucketG a y.id).id), .lit (.int .i64 (bucketG a y.id).kind), wa, ww] 50) := hhC ▸ at_put lB3
        have LA3 := ld_at (T := tabOf Try.prog NT0) A3
        have lA3 := at_lt A3
        have LBC := ld_at (T := tabOf Try.prog NT0) BC
        have lBC := at_lt BC
        have yaC : IsSl RInt (fun b => hB.n ≤ b) hC wa (bucketG a y.id).items := ya.lift fun b hb _ => ⟨hhC ▸ at_put_ne _ (by omega), hb⟩
        have ywC : IsSl RInt (fun b => hB.n ≤ b) hC ww (bucketG a y.id).weights := yw.lift fun b hb _ => ⟨hhC ▸ at_put_ne _ (by omega), hb⟩
        have xaC := xa.lift (G := fun b => b < q) fun b hb hlt => ⟨eC.2 b hlt, hb⟩
        have xwC := xw.lift (G := fun b => b < q) fun b hb hlt => ⟨eC.2 b hlt, hb⟩
        unfold bktV
        have hfs : (b.buckets.take (i + 1)).flatMap (chK a ((k : Int) + 1)) = (b.buckets.take i).flatMap (chK a ((k : Int) + 1)) ++ chK a ((k : Int) + 1) y := fm_succ hy
        have skip : chK a ((k : Int) + 1) y = [] → ∀ (h' : AH) (t : TM), Ext h.n h h' → t.n = 98 ∧ t.get 0 = .ptr q 0 ∧ t.get 6 = .lit (.int .i64 ((k : Int) + 1)) ∧ t.get 55 = ub ∧ t.get 56 = .lit (.int .i64 N) ∧ t.get 57 = .lit (.int .i64 ((i + 1 : Nat) : Int)) → (∃ s', BJ a b vo vp vb uo up ub q n0 H h' (L1 ++ (b.buckets.take (i + 1)).flatMap (chK a ((k : Int) + 1))) s') ∧ t.n = 98 ∧ t.get 0 = .ptr q 0 ∧ t.get 6 = .lit (.int .i64 ((k : Int) + 1)) ∧ t.get 55 = ub ∧ t.get 56 = .lit (.int .i64 N) ∧ t.get 57 = .lit (.int .i64 ((i + 1 : Nat) : Int)) := fun hn h' t e ht => ⟨⟨s', by rw [hfs, hn, List.append_nil]; exact j.ext e⟩, ht⟩
        by_cases hkd : (y.kind == (k : Int) + 1) = true
        · have hkd' : y.kind = (k : Int) + 1 := eq_of_beq hkd
          cases hsm : (bucketF a y.id).isSome with
          | false =>
            have hck : chK a ((k : Int) + 1) y = [chB y] := by
              unfold chK
              rw [if_pos ⟨hkd', fun hh => by rw [hsm] at hh; cases hh.1⟩]
            have jX := j.ext eC
            have QX := jX.Q
            unfold dfC at QX
            have LQX := ld_at (T := tabOf Try.prog NT0) QX
            have lQX := at_lt QX
            have eXn := (eC).1
            repeat (first | ((with_reducible refine WDM_cons ?_; simp only [dw1]; try simp only [dw2, zrA, zrM, zrR, zrO, zrE]); simp only [core, zrA, zrS, zrM, zrL, zrE, reduceCtorEq, zrD, ziE, ziL, ziN, cored, hn, g0, g6, g55, g56, g57, B3, lB3, y3, y4, ← hhC, LA3, LBC, hkd, hsm, aundef]) | simp only [core, zrA, zrS, zrM, zrL, zrE, reduceCtorEq, zrD, ziE, ziL, ziN, cored, hn, g0, g6, g55, g56, g57, B3, lB3, y3, y4, ← hhC, LA3, LBC, hkd, hsm, aundef])
            rw [WB_regionD [0, 1, 2, 3, 4, 5, 6, 7, 8, 9, 10, 11, 12] 374075901509608849989249874936925840199771769274368 (by kernel_rfl)]
            repeat ((with_reducible refine WDM_cons ?_; simp only [dw1]; try simp only [dw2, zrA, zrM, zrR, zrO, zrE]); simp only [core, zrA, zrS, zrM, zrL, zrE, reduceCtorEq, zrD, ziE, ziL, ziN, cored, hn, g0, g6, g55, g56, g57, LQX, lQX, LA3, lA3, y1, y2])
            try (refine ⟨by simp only [core, zrA, zrS, zrM, zrL, zrE, reduceCtorEq, zrD, ziE, ziL, ziN, cored, LQX, LA3, same_agg, same_int, same_sl, same_one, z1, z2, y1, y2, jX.o.isSl, List.zip_cons_cons, List.zip_nil_left, List.all_cons, List.all_nil], ?_⟩)
            refine (bkt_x y xaC xwC (hb y hym).1 (hb y hym).2).mono ?_
            rintro _ h5 ⟨e5, ra, rw1, rfl, r1, r2⟩
            have u1 := (r1.toSl (F := fun _ => True) fun _ _ => trivial).one
            have u2 := (r2.toSl (F := fun _ => True) fun _ _ => trivial).one
            have j5 := jX.ext e5
            have Q5 := j5.Q
            unfold dfC at Q5
            have LQ5 := ld_at (T := tabOf Try.prog NT0) Q5
            have f5 := e5.1
            unfold bktV
            repeat ((with_reducible refine WDM_cons ?_; simp only [dw1]; try simp only [dw2, zrA, zrM, zrR, zrO, zrE]); simp only [core, zrA, zrS, zrM, zrL, zrE, reduceCtorEq, zrD, ziE, ziL, ziN, cored, hn, g0, g6, g55, g56, g57, LQ5, u1, u2, j5.o.one, j5.o.isSl])
            obtain ⟨hP, hhP⟩ : ∃ hP, hP = h5.push (.cells [.lit (.int .i64 6), .lit (.int .i64 0), .lit (.int .i64 0), .lit (.int .i64 0), .lit (.int .i64 0), .lit (.int .i64 0), .lit (.int .i64 0), .lit (.int .i64 y.id), .lit (.int .i64 y.kind), ra, rw1] 54) := ⟨_, rfl⟩
            have e6 : Ext h5.n h5 hP := hhP ▸ (Ext.refl _ _).push _ (Nat.le_refl _)
            have nP : hP.n = h5.n + 1 := by rw [hhP, n_push]
            have PP : hP.at h5.n = some (.cells [.lit (.int .i64 6), .lit (.int .i64 0), .lit (.int .i64 0), .lit (.int .i64 0), .lit (.int .i64 0), .lit (.int .i64 0), .lit (.int .i64 0), .lit (.int .i64 y.id), .lit (.int .i64 y.kind), ra, rw1] 54) := hhP ▸ at_push_n _ _
            have QP := (j5.ext e6).Q
            unfold dfC at QP
            have LQP := ld_at (T := tabOf Try.prog NT0) QP
            have os5 := j5.o.isSl
            rw [← hhP]
            refine ⟨by simp only [core, zrA, zrS, zrM, zrL, zrE, reduceCtorEq, zrD, ziE, ziL, ziN, cored, LQP, same_sl, os5], ?_⟩
            have r1' : IsSl RInt (fun k => n0 ≤ k ∧ Apart s' k) hP ra y.items := (r1.toSl fun k hk => ⟨by omega, jX.o.apart hk⟩).ext e6 (Nat.le_refl _)
            have r2' : IsSl RInt (fun k => n0 ≤ k ∧ Apart s' k) hP rw1 y.weights := (r2.toSl fun k hk => ⟨by omega, jX.o.apart hk⟩).ext e6 (Nat.le_refl _)
            refine WOpD_app (push_ch (x := chB y) (j5.o.ext e6 (Nat.le_refl _)) (by omega) PP r1' r2' ⟨⟨by show I64 6; unfold I64; decide, I64z, I64z⟩, okp0, ix.1, ix.2⟩ (by rw [List.length_append]; omega)) ?_
            rintro s6 h6 ⟨o6, f6⟩
            obtain ⟨Q6, j6⟩ := j5.pushed q0 e6 o6 f6
            unfold dfC at Q6
            have lQ6 := at_lt Q6
            have w1 := o6.isSl
            have w2 := o6.one
            repeat (first | ((with_reducible refine WDM_cons ?_; simp only [dw1]; try simp only [dw2, zrA, zrM, zrR, zrO, zrE]); simp only [core, zrA, zrS, zrM, zrL, zrE, reduceCtorEq, zrD, ziE, ziL, ziN, cored, hn, g0, g6, g55, g56, g57, Q6, lQ6, w1, w2, hwi]) | simp only [core, zrA, zrS, zrM, zrL, zrE, reduceCtorEq, zrD, ziE, ziL, ziN, cored, hn, g0, g6, g55, g56, g57, Q6, lQ6, w1, w2, hwi])
            refine ih2 _ _ ⟨⟨s6, ?_⟩, ?_⟩
            · rw [hfs, hck, ← List.append_assoc]
              exact j6
            · simp only [core, zrA, zrS, zrM, zrL, zrE, reduceCtorEq, zrD, ziE, ziL, ziN, hn, g0, g6, g55, g56, g57]
          | true =>
            have gok : Sm 8 (bucketG a y.id).items ∧ Sm 8 (bucketG a y.id).weights := by
              unfold bucketG
              cases hq : bucketF a y.id with
              | none => exact ⟨by unfold Sm bkt0; simp, by unfold Sm bkt0; simp⟩
              | some z =>
                refine ha z ?_
                unfold bucketF at hq
                exact List.mem_of_find?_eq_some hq
            repeat (first | ((with_reducible refine WDM_cons ?_; simp only [dw1]; try simp only [dw2, zrA, zrM, zrR, zrO, zrE]); simp only [core, zrA, zrS, zrM, zrL, zrE, reduceCtorEq, zrD, ziE, ziL, ziN, cored, hn, g0, g6, g55, g56, g57, B3, lB3, y3, y4, ← hhC, LA3, LBC, hkd, hsm, aundef]) | simp only [core, zrA, zrS, zrM, zrL, zrE, reduceCtorEq, zrD, ziE, ziL, ziN, cored, hn, g0, g6, g55, g56, g57, B3, lB3, y3, y4, ← hhC, LA3, LBC, hkd, hsm, aundef])
            refine (sameBkt_x (bucketG a y.id) y yaC ywC xaC xwC gok.1 gok.2).mono ?_
            rintro _ h4 ⟨e4, rfl⟩
            have e4h : Ext h.n h h4 := eC.trans (e4.mono (by omega))
            have A4 := (e4.2 _ lA3).trans A3
            have LA4 := ld_at (T := tabOf Try.prog NT0) A4
            have lA4 := at_lt A4
            have xa4 := xa.lift (G := fun b => b < q) fun b hb hlt => ⟨e4h.2 b hlt, hb⟩
            have xw4 := xw.lift (G := fun b => b < q) fun b hb hlt => ⟨e4h.2 b hlt, hb⟩
            cases hsb : sameB (bucketG a y.id) y with
            | true =>
              simp only [core, zrA, zrS, zrM, zrL, zrE, reduceCtorEq, zrD, ziE, ziL, ziN, hn, g0, g6, g55, g56, g57, hwi, aundef]
              refine ih2 _ _ (skip ?_ _ _ e4h ?_)
              · unfold chK
                rw [if_neg fun hh => hh.2 ⟨hsm, hsb⟩]
              · simp only [core, zrA, zrS, zrM, zrL, zrE, reduceCtorEq, zrD, ziE, ziL, ziN, hn, g0, g6, g55, g56, g57]
            | false =>
              have hck : chK a ((k : Int) + 1) y = [chB y] := by
                unfold chK
                rw [if_pos ⟨hkd', fun hh => by rw [hsb] at hh; cases hh.2⟩]
              have jX := j.ext e4h
              have QX := jX.Q
              unfold dfC at QX
              have LQX := ld_at (T := tabOf Try.prog NT0) QX
              have lQX := at_lt QX
              have eXn := (e4h).1
              repeat (first | ((with_reducible refine WDM_cons ?_; simp only [dw1]; try simp only [dw2, zrA, zrM, zrR, zrO, zrE]); simp only [core, zrA, zrS, zrM, zrL, zrE, reduceCtorEq, zrD, ziE, ziL, ziN, cored, hn, g0, g6, g55, g56, g57, aundef]) | simp only [core, zrA, zrS, zrM, zrL, zrE, reduceCtorEq, zrD, ziE, ziL, ziN, cored, hn, g0, g6, g55, g56, g57, aundef])
              rw [WB_regionD [0, 1, 2, 3, 4, 5, 6, 7, 8, 9, 10, 11, 12] 374075901509608849989249874936925840199771769274368 (by kernel_rfl)]
              repeat ((with_reducible refine WDM_cons ?_; simp only [dw1]; try simp only [dw2, zrA, zrM, zrR, zrO, zrE]); simp only [core, zrA, zrS, zrM, zrL, zrE, reduceCtorEq, zrD, ziE, ziL, ziN, cored, hn, g0, g6, g55, g56, g57, LQX, lQX, LA4, lA4, y1, y2])
              try (refine ⟨by simp only [core, zrA, zrS, zrM, zrL, zrE, reduceCtorEq, zrD, ziE, ziL, ziN, cored, LQX, LA4, same_agg, same_int, same_sl, same_one, z1, z2, y1, y2, jX.o.isSl, List.zip_cons_cons, List.zip_nil_left, List.all_cons, List.all_nil], ?_⟩)
              refine (bkt_x y xa4 xw4 (hb y hym).1 (hb y hym).2).mono ?_
              rintro _ h5 ⟨e5, ra, rw1, rfl, r1, r2⟩
              have u1 := (r1.toSl (F := fun _ => True) fun _ _ => trivial).one
              have u2 := (r2.toSl (F := fun _ => True) fun _ _ => trivial).one
              have j5 := jX.ext e5
              have Q5 := j5.Q
              unfold dfC at Q5
              have LQ5 := ld_at (T := tabOf Try.prog NT0) Q5
              have f5 := e5.1
              unfold bktV
              repeat ((with_reducible refine WDM_cons ?_; simp only [dw1]; try simp only [dw2, zrA, zrM, zrR, zrO, zrE]); simp only [core, zrA, zrS, zrM, zrL, zrE, reduceCtorEq, zrD, ziE, ziL, ziN, cored, hn, g0, g6, g55, g56, g57, LQ5, u1, u2, j5.o.one, j5.o.isSl])
              obtain ⟨hP, hhP⟩ : ∃ hP, hP = h5.push (.cells [.lit (.int .i64 6), .lit (.int .i64 0), .lit (.int .i64 0), .lit (.int .i64 0), .lit (.int .i64 0), .lit (.int .i64 0), .lit (.int .i64 0), .lit (.int .i64 y.id), .lit (.int .i64 y.kind), ra, rw1] 54) := ⟨_, rfl⟩
              have e6 : Ext h5.n h5 hP := hhP ▸ (Ext.refl _ _).push _ (Nat.le_refl _)
              have nP : hP.n = h5.n + 1 := by rw [hhP, n_push]
              have PP : hP.at h5.n = some (.cells [.lit (.int .i64 6), .lit (.int .i64 0), .lit (.int .i64 0), .lit (.int .i64 0), .lit (.int .i64 0), .lit (.int .i64 0), .lit (.int .i64 0), .lit (.int .i64 y.id), .lit (.int .i64 y.kind), ra, rw1] 54) := hhP ▸ at_push_n _ _
              have QP := (j5.ext e6).Q
              unfold dfC at QP
              have LQP := ld_at (T := tabOf Try.prog NT0) QP
              have os5 := j5.o.isSl
              rw [← hhP]
              refine ⟨by simp only [core, zrA, zrS, zrM, zrL, zrE, reduceCtorEq, zrD, ziE, ziL, ziN, cored, LQP, same_sl, os5], ?_⟩
              have r1' : IsSl RInt (fun k => n0 ≤ k ∧ Apart s' k) hP ra y.items := (r1.toSl fun k hk => ⟨by omega, jX.o.apart hk⟩).ext e6 (Nat.le_refl _)
              have r2' : IsSl RInt (fun k => n0 ≤ k ∧ Apart s' k) hP rw1 y.weights := (r2.toSl fun k hk => ⟨by omega, jX.o.apart hk⟩).ext e6 (Nat.le_refl _)
              refine WOpD_app (push_ch (x := chB y) (j5.o.ext e6 (Nat.le_refl _)) (by omega) PP r1' r2' ⟨⟨by show I64 6; unfold I64; decide, I64z, I64z⟩, okp0, ix.1, ix.2⟩ (by rw [List.length_append]; omega)) ?_
              rintro s6 h6 ⟨o6, f6⟩
              obtain ⟨Q6, j6⟩ := j5.pushed q0 e6 o6 f6
              unfold dfC at Q6
              have lQ6 := at_lt Q6
              have w1 := o6.isSl
              have w2 := o6.one
              repeat (first | ((with_reducible refine WDM_cons ?_; simp only [dw1]; try simp only [dw2, zrA, zrM, zrR, zrO, zrE]); simp only [core, zrA, zrS, zrM, zrL, zrE, reduceCtorEq, zrD, ziE, ziL, ziN, cored, hn, g0, g6, g55, g56, g57, Q6, lQ6, w1, w2, hwi]) | simp only [core, zrA, zrS, zrM, zrL, zrE, reduceCtorEq, zrD, ziE, ziL, ziN, cored, hn, g0, g6, g55, g56, g57, Q6, lQ6, w1, w2, hwi])
              refine ih2 _ _ ⟨⟨s6, ?_⟩, ?_⟩
              · rw [hfs, hck, ← List.append_assoc]
                exact j6
              · simp only [core, zrA, zrS, zrM, zrL, zrE, reduceCtorEq, zrD, ziE, ziL, ziN, hn, g0, g6, g55, g56, g57]
        · have hkf := eq_false_of_ne_true hkd
          repeat (first | ((with_reducible refine WDM_cons ?_; simp only [dw1]; try simp only [dw2, zrA, zrM, zrR, zrO, zrE]); simp only [core, zrA, zrS, zrM, zrL, zrE, reduceCtorEq, zrD, ziE, ziL, ziN, cored, hn, g0, g6, g55, g56, g57, B3, lB3, y3, y4, ← hhC, hwi, LA3, LBC, hkf, aundef]) | simp only [core, zrA, zrS, zrM, zrL, zrE, reduceCtorEq, zrD, ziE, ziL, ziN, cored, hn, g0, g6, g55, g56, g57, B3, lB3, y3, y4, ← hhC, hwi, LA3, LBC, hkf, aundef])
          refine ih2 _ _ (skip ?_ _ _ eC ?_)
          · unfold chK
            rw [if_neg fun hh => hkd (beq_iff_eq.2 hh.1)]
          · simp only [core, zrA, zrS, zrM, zrL, zrE, reduceCtorEq, zrD, ziE, ziL, ziN, hn, g0, g6, g55, g56, g57]
      · rintro t h hc ⟨⟨s', j⟩, hn, g0, g6, g55, g56, g57⟩
        rw [List.take_of_length_le (by omega)] at j
        simp only [core, zrA, zrS, zrM, zrL, zrE, reduceCtorEq, zrD, ziE, ziL, ziN, hn, g0, g6, g55, g56, g57, hc, hwk]
        refine ih (k + 1) _ _ ⟨by omega, ⟨s', ?_⟩, ?_⟩ (by omega)
        · rw [show L0 ++ bkN a b (k + 1) = L1 ++ b.buckets.flatMap (chK a ((k : Int) + 1)) by rw [hL1, List.append_assoc]; rfl]
          exact j
        · simp only [core, zrA, zrS, zrM, zrL, zrE, reduceCtorEq, zrD, ziE, ziL, ziN, hn, g0, g6, g55, g56, g57]
      · refine ⟨⟨s', by simpa using j⟩, ?_⟩
        simp only [core, zrA, zrS, zrM, zrL, zrE, reduceCtorEq, zrD, ziE, ziL, ziN, hn, g0, g6]
        first | done | exact ⟨rfl, rfl⟩ | trivial
    · refine ⟨by omega, ⟨s', by simpa [bkN] using j⟩, ?_⟩
      simp only [core, zrA, zrS, zrM, zrL, zrE, reduceCtorEq, zrD, ziE, ziL, ziN, hn, g0, g15, g16, g17]
      first | done | trivial
  · refine ⟨⟨s, by simpa using j0⟩, ?_⟩
    simp only [core, zrA, zrS, zrM, zrL, zrE, reduceCtorEq, zrD, ziE, ziL, ziN]
    first | done | exact ⟨rfl, rfl⟩ | trivial
end Go.Proofs.Ytmfhagahkkhbeaa.Ex
end

section

set_option linter.unusedSimpArgs false
set_option linter.unusedVariables false
set_option maxRecDepth 10000
set_option maxHeartbeats 4000000
namespace Go.Proofs.Ytmfhagahkkhbeaa.Ex
open Go
def chPl (p : PoolD) : ChD := ⟨5, 0, 0, p, bkt0⟩
def chLf (v : Int) : ChD := ⟨7, 0, v, pool0, bkt0⟩
def chP (a : MapD) (p : PoolD) : List ChD := if poolF a p.id = some p then [] else [chPl p]
def chL (a b : MapD) : List ChD := if a.leaf = b.leaf then [] else [chLf b.leaf]
/-- All that is behind the osds. -/
def rsL (a b : MapD) : List ChD := b.pools.flatMap (chP a) ++ (bkL a b ++ chL a b)
def dfL (a b : MapD) : List ChD := osL wP a b (max a.osds.length b.osds.length) ++ rsL a b
def dfR (a b : MapD) (l : List ChD) : List ChD × Int := if (applyD a ⟨b.epoch, l⟩).2 = 0 ∧ (applyD a ⟨b.epoch, l⟩).1 = b then (l, 0) else ([], 22)
theorem chP_len (a : MapD) (p : PoolD) : (chP a p).length ≤ 1 := by unfold chP; split <;> simp
theorem chL_len (a b : MapD) : (chL a b).length ≤ 1 := by unfold chL; split <;> simp
theorem bkL_len (a b : MapD) : (bkL a b).length ≤ a.buckets.length + 3 * b.buckets.length := by
  have h1 := bkN_len a b 3
  have h2 := fm_len (chG_len b) a.buckets
  unfold bkL
  rw [List.length_append]
  omega
theorem rsL_len (a b : MapD) : (rsL a b).length ≤ b.pools.length + a.buckets.length + 3 * b.buckets.length + 1 := by
  have h1 := bkL_len a b
  have h2 := chL_len a b
  have h3 := fm_len (chP_len a) b.pools
  unfold rsL
  rw [List.length_append, List.length_append]
  omega
theorem idx2_some {F : Nat → Prop} {H : AH} {v : AV} {b : Nat} {ps : List PoolD} {q : PoolD} (p : PoolD) (hv : IsSl RPool F H v ps) (hl : Sm 32 ps) (hb : H.at b = some (.cells [.lit (.int .i64 p.id), .lit (.int .i64 p.size), .lit (.int .i64 p.min), .lit (.int .i64 p.pgs)] 52)) (hf : ps.find? (fun q => q.id == p.id) = some q) :
    WC Try.prog (tabOf Try.prog NT0) S0 16 [v, .fn (.func 17) [] [.ptr b 0]] H fun r h' => Ext H.n H h' ∧ ∃ k : Nat, r = .lit (.int .i64 k) ∧ ps[k]? = some q := by
  refine (idx2_x p hv hl hb).mono ?_
  rintro r h' ⟨e, n, rfl, ⟨k, q', rfl, hk, hf'⟩ | ⟨rfl, hf'⟩⟩
  · rw [hf] at hf'
    cases hf'
    exact ⟨e, k, rfl, hk⟩
  · rw [hf] at hf'
    cases hf'
theorem idx2_none {F : Nat → Prop} {H : AH} {v : AV} {b : Nat} {ps : List PoolD} (p : PoolD) (hv : IsSl RPool F H v ps) (hl : Sm 32 ps) (hb : H.at b = some (.cells [.lit (.int .i64 p.id), .lit (.int .i64 p.size), .lit (.int .i64 p.min), .lit (.int .i64 p.pgs)] 52)) (hf : ps.find? (fun q => q.id == p.id) = none) :
    WC Try.prog (tabOf Try.prog NT0) S0 16 [v, .fn (.func 17) [] [.ptr b 0]] H fun r h' => Ext H.n H h' ∧ r = .lit (.int .i64 (-1)) := by
  refine (idx2_x p hv hl hb).mono ?_
  rintro r h' ⟨e, n, rfl, ⟨k, q', rfl, hk, hf'⟩ | ⟨rfl, hf'⟩⟩
  · rw [hf] at hf'
    cases hf'
  · exact ⟨e, rfl⟩
theorem sz_aux {x y m i n r s : Nat} (h1 : x ≤ 4 * m) (h2 : y ≤ min i n) (h3 : i < n) (h4 : (4 * m + (n + r + 3 * s + 1)) * 120 ≤ 140737488351232) : (x + y + 1) * 120 ≤ 140737488355328 := by
  have h5 : y ≤ i := Nat.le_trans h2 (Nat.min_le_left _ _)
  have h6 : x + y + 1 ≤ 4 * m + (n + r + 3 * s + 1) := by omega
  exact Nat.le_trans (Nat.le_trans (Nat.mul_le_mul_right 120 h6) h4) (by decide)
theorem sz_aux2 {x y m n r s : Nat} (h1 : x ≤ 4 * m) (h2 : y ≤ n) (h4 : (4 * m + (n + r + 3 * s + 1)) * 120 ≤ 140737488351232) : (x + y + (r + 3 * s)) * 120 ≤ 140737488355328 := by
  have h6 : x + y + (r + 3 * s) ≤ 4 * m + (n + r + 3 * s + 1) := by omega
  exact Nat.le_trans (Nat.le_trans (Nat.mul_le_mul_right 120 h6) h4) (by decide)
theorem sz_aux3 {x y z m n r s : Nat} (h1 : x ≤ 4 * m) (h2 : y ≤ n) (h3 : z ≤ r + 3 * s) (h4 : (4 * m + (n + r + 3 * s + 1)) * 120 ≤ 140737488351232) : (x + y + z + 1) * 120 ≤ 140737488355328 := by
  have h6 : x + y + z + 1 ≤ 4 * m + (n + r + 3 * s + 1) := by omega
  exact Nat.le_trans (Nat.le_trans (Nat.mul_le_mul_right 120 h6) h4) (by decide)
theorem sz_aux4 {x K : Nat} (h1 : x ≤ K) (h4 : K * 120 ≤ 140737488351232) : x * 88 ≤ 140737488351232 := Nat.le_trans (Nat.mul_le_mul h1 (by decide : 88 ≤ 120)) h4
def NoB (l : List ChD) : Prop := ∀ c ∈ l, Sm 8 c.bucket.items ∧ Sm 8 c.bucket.weights
theorem sm_nil {α : Type} {n : Nat} : Sm n ([] : List α) := by unfold Sm; simp
theorem NoB.append {l m : List ChD} (a : NoB l) (b : NoB m) : NoB (l ++ m) := fun c hc => (List.mem_append.1 hc).elim (a c) (b c)
theorem NoB.ifs {P : Prop} [Decidable P] {l m : List ChD} (a : NoB l) (b : NoB m) : NoB (if P then l else m) := by split <;> assumption
theorem NoB.nil : NoB [] := fun c hc => by cases hc
theorem NoB.one {c : ChD} (h : Sm 8 c.bucket.items ∧ Sm 8 c.bucket.weights) : NoB [c] := fun d hd => by
  obtain rfl := List.mem_singleton.1 hd
  exact h
theorem NoB.fm {α : Type} {f : α → List ChD} {l : List α} (h : ∀ x ∈ l, NoB (f x)) : NoB (l.flatMap f) := fun c hc => by
  obtain ⟨x, hx, hc⟩ := List.mem_flatMap.1 hc
  exact h x hx c hc
theorem osL_no (w : OsdD → OsdD → Int) (a b : MapD) : ∀ n, NoB (osL w a b n)
  | 0 => .nil
  | n + 1 => by
    have h0 : ∀ k v x : Int, Sm 8 (chO k v x).bucket.items ∧ Sm 8 (chO k v x).bucket.weights := fun _ _ _ => ⟨sm_nil, sm_nil⟩
    unfold osL oneC
    exact (osL_no w a b n).append (.append (.ifs (.one (h0 _ _ _)) .nil) (.append (.ifs (.one (h0 _ _ _)) .nil) (.append (.ifs (.one (h0 _ _ _)) .nil) (.ifs (.one (h0 _ _ _)) .nil))))
theorem bkN_no {a b : MapD} (hb : ∀ x ∈ b.buckets, Sm 8 x.items ∧ Sm 8 x.weights) : ∀ n, NoB (bkN a b n)
  | 0 => .nil
  | n + 1 => by
    unfold bkN chK
    exact (bkN_no hb n).append (.fm fun x hx => .ifs (.one (hb x hx)) .nil)
theorem rsL_no {a b : MapD} (hb : ∀ x ∈ b.buckets, Sm 8 x.items ∧ Sm 8 x.weights) : NoB (rsL a b) := by
  unfold rsL bkL chP chG chL
  exact .append (.fm fun x _ => .ifs .nil (.one ⟨sm_nil, sm_nil⟩)) (.append (.append (.fm fun x _ => .ifs .nil (.one ⟨sm_nil, sm_nil⟩)) (bkN_no hb 3)) (.ifs .nil (.one ⟨sm_nil, sm_nil⟩)))
theorem applyD_ok {a b : MapD} {l : List ChD} (hst : ∀ i n, i ≤ l.length → applyC a (l.take i) = (n, 0) → MpSz n ∧ OkMp n) (h0 : (applyD a ⟨b.epoch, l⟩).2 = 0) : OkMp (applyD a ⟨b.epoch, l⟩).1 := by
  unfold applyD at h0 ⊢
  by_cases he : a.epoch = 9223372036854775807 ∨ ¬ b.epoch = a.epoch + 1
  · rw [if_pos he] at h0; cases h0
  rw [if_neg he] at h0 ⊢
  by_cases ha : (applyC a l).2 = 0
  · rw [if_pos ha]
    have := (hst l.length (applyC a l).1 (Nat.le_refl _) (by rw [List.take_length]; exact Prod.ext rfl ha)).2
    exact this
  · rw [if_neg ha] at h0
    exact absurd h0 ha
theorem diff_x {F : Nat → Prop} {H : AH} {a b : MapD} {vo vp vb uo up ub : AV} (hm : MpAt F H a vo vp vb) (hm2 : MpAt F H b uo up ub) (hF : ∀ k, F k → k < H.n)
    (oka : OkMp a) (okb : OkMp b) (iea : I64 a.epoch) (ila : I64 a.leaf) (ieb : I64 b.epoch) (ilb : I64 b.leaf) (hb : a.buckets.length ≤ 65536)
    (hl : (4 * max a.osds.length b.osds.length + (b.pools.length + a.buckets.length + 3 * b.buckets.length + 1)) * 120 ≤ 140737488351232)
    (hst : ∀ i n, i ≤ (dfL a b).length → applyC a ((dfL a b).take i) = (n, 0) → MpSz n ∧ OkMp n) :
    WC Try.prog (tabOf Try.prog NT0) S0 7 [mpV a vo vp vb, mpV b uo up ub] H fun r h' => Ext H.n H h' ∧ ∃ rv, r = .tup [rv, .lit (.int .i64 (dfR a b (dfL a b)).2)] ∧ IsSl RCh (fun k => H.n ≤ k) h' rv (dfR a b (dfL a b)).1 := by
  refine WC_fn Try.func7 rfl rfl ?_
  have o1 := hm.o.one
  have o2 := hm.p.one
  have o3 := hm.b.one
  have p1 := hm2.o.one
  have p2 := hm2.p.one
  have p3 := hm2.b.one
  have s1 := hm.o.isSl
  have s2 := hm.p.isSl
  have s3 := hm.b.isSl
  have t1 := hm2.o.isSl
  have t2 := hm2.p.isSl
  have t3 := hm2.b.isSl
  have d2 := hm.p.lenD
  have e2 := hm2.p.lenD
  obtain ⟨⟨la1, -⟩, ⟨la2, -⟩, la3, ha⟩ := id oka
  obtain ⟨⟨lb1, -⟩, ⟨lb2, -⟩, lb3, hb'⟩ := id okb
  have la2' := la2
  have lb2' := lb2
  unfold Sm at la2' lb2'
  obtain ⟨hq, hhq⟩ : ∃ hq, hq = ((H.push (mC a vo vp vb)).push (mC b uo up ub)).push (dfC a b vo vp vb uo up ub (.lit (.slice none 0 0))) := ⟨_, rfl⟩
  have EQ : Ext H.n H hq := hhq ▸ (((Ext.refl _ _).push _ (Nat.le_refl _)).push _ (by rw [n_push]; omega)).push _ (by rw [n_push, n_push]; omega)
  have nq : hq.n = H.n + 3 := by rw [hhq, n_push, n_push, n_push]
  have A0 : hq.at H.n = some (mC a vo vp vb) := hhq ▸ (at_push_lt _ (by rw [n_push, n_push]; omega)).trans ((at_push_lt _ (by rw [n_push]; omega)).trans (at_push_n _ _))
  have B0 : hq.at (H.n + 1) = some (mC b uo up ub) := hhq ▸ (at_push_lt _ (by rw [n_push, n_push]; omega)).trans (at_push_n (H.push (mC a vo vp vb)) _)
  have Q0 : hq.at (H.n + 2) = some (dfC a b vo vp vb uo up ub (.lit (.slice none 0 0))) := hhq ▸ at_push_n ((H.push (mC a vo vp vb)).push (mC b uo up ub)) _
  have ma : MpAt (fun k => k < H.n + 2) hq a vo vp vb := ⟨(hm.o.ext EQ (Nat.le_refl _)).lift fun k hk _ => ⟨rfl, by have := hF k hk; omega⟩, (hm.p.ext EQ (Nat.le_refl _)).lift fun k hk _ => ⟨rfl, by have := hF k hk; omega⟩, (hm.b.ext EQ (Nat.le_refl _)).lift fun k hk _ => ⟨rfl, by have := hF k hk; omega⟩⟩
  have mb : MpAt (fun k => k < H.n + 2) hq b uo up ub := ⟨(hm2.o.ext EQ (Nat.le_refl _)).lift fun k hk _ => ⟨rfl, by have := hF k hk; omega⟩, (hm2.p.ext EQ (Nat.le_refl _)).lift fun k hk _ => ⟨rfl, by have := hF k hk; omega⟩, (hm2.b.ext EQ (Nat.le_refl _)).lift fun k hk _ => ⟨rfl, by have := hF k hk; omega⟩⟩
  have keep : ∀ h, Ext (H.n + 2) hq h → h.at H.n = some (mC a vo vp vb) ∧ h.at (H.n + 1) = some (mC b uo up ub) := fun h e => ⟨(e.2 _ (by omega)).trans A0, (e.2 _ (by omega)).trans B0⟩
  have q0 : H.n + 2 < H.n + 3 := by omega
  unfold mC dfC at hhq
  simp only [core, zrA, zrS, zrM, zrL, zrE, reduceCtorEq, zrD, ziE, ziL, ziN, Try.ntmps7, mpV, o1, o2, o3, p1, p2, p3, n_push, Nat.add_assoc, zrA, ← hhq]
  refine (osds_x Q0 ma mb .nil q0 (by omega) la1 lb1 (by simp only [List.length_nil]; omega)).mono ?_
  rintro _ h1 ⟨rfl, E1, s1', Q1, oo⟩
  have A1 := (keep _ E1).1
  have B1 := (keep _ E1).2
  unfold mC at A1 B1
  have LA1 := ld_at (T := tabOf Try.prog NT0) A1
  have LB1 := ld_at (T := tabOf Try.prog NT0) B1
  have lA1 := at_lt A1
  have lB1 := at_lt B1
  obtain ⟨L0, hL0⟩ : ∃ L0, L0 = osL wP a b (max a.osds.length b.osds.length) := ⟨_, rfl⟩
  have hL0n := osL_len wP a b (max a.osds.length b.osds.length)
  rw [← hL0] at hL0n
  rw [List.nil_append, ← hL0] at oo
  obtain ⟨MX, hMX⟩ : ∃ MX, MX = max a.osds.length b.osds.length := ⟨_, rfl⟩
  rw [← hMX] at hl hL0n
  clear hMX
  have j1 : BJ a b vo vp vb uo up ub (H.n + 2) (H.n + 3) hq h1 L0 s1' := ⟨Q1, oo.monoG (fun _ hk => hk.elim), E1⟩
  obtain ⟨N, hN⟩ : ∃ N, N = b.pools.length := ⟨_, rfl⟩
  rw [← hN] at e2
  simp only [core, zrA, zrS, zrM, zrL, zrE, reduceCtorEq, zrD, ziE, ziL, ziN, LA1, LB1, lA1, lB1, t2, e2]
  refine WB_for N (fun i t h => (∃ s', BJ a b vo vp vb uo up ub (H.n + 2) (H.n + 3) hq h (L0 ++ (b.pools.take i).flatMap (chP a)) s') ∧ t.n = 95 ∧ t.get 2 = .ptr H.n 0 ∧ t.get 3 = .ptr (H.n + 1) 0 ∧ t.get 6 = .ptr (H.n + 2) 0 ∧ t.get 19 = up ∧ t.get 20 = .lit (.int .i64 N) ∧ t.get 21 = .lit (.int .i64 i)) ?_ ?_ _ _ ?_
  · rintro i t h hlt hc ⟨⟨s', j⟩, hn, g2, g3, g6, g19, g20, g21⟩ ih
    have hwi := wrap_succ (n := N) hlt (by omega)
    have hlen := fm_len (chP_len a) (b.pools.take i)
    rw [List.length_take] at hlen
    obtain ⟨p, hp⟩ : ∃ p, b.pools[i]? = some p := ⟨_, List.getElem?_eq_getElem (by omega)⟩
    have hltp : i < b.pools.length := by omega
    have f1 := j.E.1
    obtain ⟨A2, B2⟩ := keep _ j.E
    obtain ⟨cp, hcp, ld1, ld1'⟩ := (mb.extQ j.E).p.at (T := tabOf Try.prog NT0) RPool_z hp
    obtain ⟨rfl, ip⟩ := RPool_is.1 hcp
    have hfs : (b.pools.take (i + 1)).flatMap (chP a) = (b.pools.take i).flatMap (chP a) ++ chP a p := fm_succ hp
    by_cases hpo : a.pools.find? (fun q => q.id == p.id) = none
    · have hf := hpo
      obtain ⟨hA, hhA⟩ : ∃ hA, hA = h.push (.cells [.lit (.int .i64 p.id), .lit (.int .i64 p.size), .lit (.int .i64 p.min), .lit (.int .i64 p.pgs)] 52) := ⟨_, rfl⟩
      have eA : Ext h.n h hA := hhA ▸ (Ext.refl _ _).push _ (Nat.le_refl _)
      have nA : hA.n = h.n + 1 := by rw [hhA, n_push]
      have P0 : hA.at h.n = some (.cells [.lit (.int .i64 p.id), .lit (.int .i64 p.size), .lit (.int .i64 p.min), .lit (.int .i64 p.pgs)] 52) := hhA ▸ at_push_n _ _
      have jA := j.ext eA
      obtain ⟨A3, B3⟩ := keep _ jA.E
      unfold mC at A3 B3
      have LA3 := ld_at (T := tabOf Try.prog NT0) A3
      have lA3 := at_lt A3
      simp only [core, zrA, zrS, zrM, zrL, zrE, reduceCtorEq, zrD, ziE, ziL, ziN, hn, g2, g3, g6, g19, g20, g21, hlt, hc, t2, e2, ld1, ld1', LA3, lA3, ← hhA]
      refine (idx2_none p (ma.extQ jA.E).p la2 P0 hpo).mono ?_
      rintro _ h3 ⟨e3, rfl⟩
      have e3h := eA.trans (e3.mono (by omega))
      have j3 := j.ext e3h
      obtain ⟨A4, B4⟩ := keep _ j3.E
      unfold mC at A4 B4
      have LA4 := ld_at (T := tabOf Try.prog NT0) A4
      have lA4 := at_lt A4
      have PX := (e3.2 _ (at_lt P0)).trans P0
      have LPX := ld_at (T := tabOf Try.prog NT0) PX
      have lPX := at_lt PX
      have QX := j3.Q
      unfold dfC at QX
      have LQX := ld_at (T := tabOf Try.prog NT0) QX
      have lQX := at_lt QX
      have eXn := e3h.1
      simp only [core, zrA, zrS, zrM, zrL, zrE, reduceCtorEq, zrD, ziE, ziL, ziN, hn, g2, g3, g6, g19, g20, g21]
      rw [WB_regionD [0, 1, 2, 3, 4, 5, 6, 7, 8, 9, 10] 1328253808484231893576526659961489408 (by kernel_rfl)]
      have hk0 : ((-1 : Int) < 0) = True := by decide
      have hcp : chP a p = [chPl p] := by unfold chP poolF; rw [hf, if_neg fun hh => by cases hh]
      repeat (first | ((with_reducible refine WDM_cons ?_; simp only [dw1]; try simp only [dw2, zrA, zrM, zrR, zrO, zrE]); simp only [core, zrA, zrS, zrM, zrL, zrE, reduceCtorEq, zrD, ziE, ziL, ziN, cored, hn, g2, g3, g6, g19, g20, g21, hk0, aundef]) | simp only [core, zrA, zrS, zrM, zrL, zrE, reduceCtorEq, zrD, ziE, ziL, ziN, cored, hn, g2, g3, g6, g19, g20, g21, hk0, aundef])
      rw [WB_regionD [0, 1, 2, 3, 4, 5, 6, 7, 8, 9, 10, 11] 11146288047483371254086280924632728951848960 (by kernel_rfl)]
      repeat ((with_reducible refine WDM_cons ?_; simp only [dw1]; try simp only [dw2, zrA, zrM, zrR, zrO, zrE]); simp only [core, zrA, zrS, zrM, zrL, zrE, reduceCtorEq, zrD, ziE, ziL, ziN, cored, hn, g2, g3, g6, g19, g20, g21, LQX, lQX, LPX, lPX])
      obtain ⟨hP, hhP⟩ : ∃ hP, hP = h3.push (.cells [.lit (.int .i64 5), .lit (.int .i64 0), .lit (.int .i64 0), .lit (.int .i64 p.id), .lit (.int .i64 p.size), .lit (.int .i64 p.min), .lit (.int .i64 p.pgs), .lit (.int .i64 0), .lit (.int .i64 0), .lit (.slice none 0 0), .lit (.slice none 0 0)] 54) := ⟨_, rfl⟩
      have e6 : Ext h3.n h3 hP := hhP ▸ (Ext.refl _ _).push _ (Nat.le_refl _)
      have nP : hP.n = h3.n + 1 := by rw [hhP, n_push]
      have PP : hP.at h3.n = some (.cells [.lit (.int .i64 5), .lit (.int .i64 0), .lit (.int .i64 0), .lit (.int .i64 p.id), .lit (.int .i64 p.size), .lit (.int .i64 p.min), .lit (.int .i64 p.pgs), .lit (.int .i64 0), .lit (.int .i64 0), .lit (.slice none 0 0), .lit (.slice none 0 0)] 54) := hhP ▸ at_push_n _ _
      have QP := (j3.ext e6).Q
      unfold dfC at QP
      have LQP := ld_at (T := tabOf Try.prog NT0) QP
      have os5 := j3.o.isSl
      rw [← hhP]
      refine ⟨same_sl os5, ?_⟩
      have hsz : ((L0 ++ (b.pools.take i).flatMap (chP a)).length + 1) * 120 ≤ 140737488355328 := by
        rw [show (L0 ++ (b.pools.take i).flatMap (chP a)).length = L0.length + ((b.pools.take i).flatMap (chP a)).length from List.length_append]
        exact sz_aux hL0n hlen hltp hl
      have hcI : (I64 (chPl p).kind ∧ I64 (chPl p).osd ∧ I64 (chPl p).value) ∧ okP (chPl p).pool ∧ I64 (chPl p).bucket.id ∧ I64 (chPl p).bucket.kind := ⟨⟨by show I64 5; unfold I64; decide, I64z, I64z⟩, ip, I64z, I64z⟩
      have hn3 : H.n + 3 ≤ hP.n := by omega
      have key := push_ch (cap := .kn 1) (x := chPl p) (j3.o.ext e6 (Nat.le_refl _)) hn3 PP .nil .nil hcI hsz
      refine WOpD_app key ?_
      rintro s6 h6 ⟨o6, f6⟩
      obtain ⟨Q6, j6⟩ := j3.pushed q0 e6 o6 f6
      unfold dfC at Q6
      have lQ6 := at_lt Q6
      have w1 := o6.isSl
      have w2 := o6.one
      repeat (first | ((with_reducible refine WDM_cons ?_; simp only [dw1]; try simp only [dw2, zrA, zrM, zrR, zrO, zrE]); simp only [core, zrA, zrS, zrM, zrL, zrE, reduceCtorEq, zrD, ziE, ziL, ziN, cored, hn, g2, g3, g6, g19, g20, g21, Q6, lQ6, w1, w2, hwi]) | simp only [core, zrA, zrS, zrM, zrL, zrE, reduceCtorEq, zrD, ziE, ziL, ziN, cored, hn, g2, g3, g6, g19, g20, g21, Q6, lQ6, w1, w2, hwi])
      refine ih _ _ ⟨⟨s6, ?_⟩, ?_⟩
      · rw [hfs, hcp, ← List.append_assoc]
        exact j6
      · simp only [core, zrA, zrS, zrM, zrL, zrE, reduceCtorEq, zrD, ziE, ziL, ziN, hn, g2, g3, g6, g19, g20, g21]
    · obtain ⟨q, hf⟩ := Option.ne_none_iff_exists'.1 hpo
      obtain ⟨hA, hhA⟩ : ∃ hA, hA = h.push (.cells [.lit (.int .i64 p.id), .lit (.int .i64 p.size), .lit (.int .i64 p.min), .lit (.int .i64 p.pgs)] 52) := ⟨_, rfl⟩
      have eA : Ext h.n h hA := hhA ▸ (Ext.refl _ _).push _ (Nat.le_refl _)
      have nA : hA.n = h.n + 1 := by rw [hhA, n_push]
      have P0 : hA.at h.n = some (.cells [.lit (.int .i64 p.id), .lit (.int .i64 p.size), .lit (.int .i64 p.min), .lit (.int .i64 p.pgs)] 52) := hhA ▸ at_push_n _ _
      have jA := j.ext eA
      obtain ⟨A3, B3⟩ := keep _ jA.E
      unfold mC at A3 B3
      have LA3 := ld_at (T := tabOf Try.prog NT0) A3
      have lA3 := at_lt A3
      simp only [core, zrA, zrS, zrM, zrL, zrE, reduceCtorEq, zrD, ziE, ziL, ziN, hn, g2, g3, g6, g19, g20, g21, hlt, hc, t2, e2, ld1, ld1', LA3, lA3, ← hhA]
      refine (idx2_some p (ma.extQ jA.E).p la2 P0 hf).mono ?_
      rintro _ h3 ⟨e3, k, rfl, hk⟩
      have e3h := eA.trans (e3.mono (by omega))
      have j3 := j.ext e3h
      obtain ⟨A4, B4⟩ := keep _ j3.E
      unfold mC at A4 B4
      have LA4 := ld_at (T := tabOf Try.prog NT0) A4
      have lA4 := at_lt A4
      have PX := (e3.2 _ (at_lt P0)).trans P0
      have LPX := ld_at (T := tabOf Try.prog NT0) PX
      have lPX := at_lt PX
      have QX := j3.Q
      unfold dfC at QX
      have LQX := ld_at (T := tabOf Try.prog NT0) QX
      have lQX := at_lt QX
      have eXn := e3h.1
      simp only [core, zrA, zrS, zrM, zrL, zrE, reduceCtorEq, zrD, ziE, ziL, ziN, hn, g2, g3, g6, g19, g20, g21]
      rw [WB_regionD [0, 1, 2, 3, 4, 5, 6, 7, 8, 9, 10] 1328253808484231893576526659961489408 (by kernel_rfl)]
      have hkl := (List.getElem?_eq_some_iff.1 hk).1
      have hk0 : ((k : Int) < 0) = False := by simp only [eq_iff_iff, iff_false]; omega
      obtain ⟨cq, hcq, ld2, ld2'⟩ := (ma.extQ j3.E).p.at (T := tabOf Try.prog NT0) RPool_z hk
      obtain ⟨rfl, iq⟩ := RPool_is.1 hcq
      by_cases hqp : q = p
      · have hd : decide (q = p) = true := decide_eq_true hqp
        repeat ((with_reducible refine WDM_cons ?_; simp only [dw1]; try simp only [dw2, zrA, zrM, zrR, zrO, zrE]); simp only [core, zrA, zrS, zrM, zrL, zrE, reduceCtorEq, zrD, ziE, ziL, ziN, cored, hn, g2, g3, g6, g19, g20, g21, hk0, LA4, lA4, s2, d2, hkl, ld2, ld2', LPX, lPX, a_neMpool, neMpool_eq, eqPool, hd, hwi])
        refine ih _ _ ⟨⟨s', ?_⟩, ?_⟩
        · rw [hfs, show chP a p = [] by unfold chP poolF; rw [hf, hqp, if_pos rfl], List.append_nil]
          exact j3
        · simp only [core, zrA, zrS, zrM, zrL, zrE, reduceCtorEq, zrD, ziE, ziL, ziN, hn, g2, g3, g6, g19, g20, g21]
      · have hd : decide (q = p) = false := decide_eq_false hqp
        have hcp : chP a p = [chPl p] := by unfold chP poolF; rw [hf, if_neg fun hh => hqp (Option.some.inj hh)]
        repeat (first | ((with_reducible refine WDM_cons ?_; simp only [dw1]; try simp only [dw2, zrA, zrM, zrR, zrO, zrE]); simp only [core, zrA, zrS, zrM, zrL, zrE, reduceCtorEq, zrD, ziE, ziL, ziN, cored, hn, g2, g3, g6, g19, g20, g21, hk0, LA4, lA4, s2, d2, hkl, ld2, ld2', LPX, lPX, a_neMpool, neMpool_eq, eqPool, hd]) | simp only [core, zrA, zrS, zrM, zrL, zrE, reduceCtorEq, zrD, ziE, ziL, ziN, cored, hn, g2, g3, g6, g19, g20, g21, hk0, LA4, lA4, s2, d2, hkl, ld2, ld2', LPX, lPX, a_neMpool, neMpool_eq, eqPool, hd])
        rw [WB_regionD [0, 1, 2, 3, 4, 5, 6, 7, 8, 9, 10, 11] 11146288047483371254086280924632728951848960 (by kernel_rfl)]
        repeat ((with_reducible refine WDM_cons ?_; simp only [dw1]; try simp only [dw2, zrA, zrM, zrR, zrO, zrE]); simp only [core, zrA, zrS, zrM, zrL, zrE, reduceCtorEq, zrD, ziE, ziL, ziN, cored, hn, g2, g3, g6, g19, g20, g21, LQX, lQX, LPX, lPX])
        obtain ⟨hP, hhP⟩ : ∃ hP, hP = h3.push (.cells [.lit (.int .i64 5), .lit (.int .i64 0), .lit (.int .i64 0), .lit (.int .i64 p.id), .lit (.int .i64 p.size), .lit (.int .i64 p.min), .lit (.int .i64 p.pgs), .lit (.int .i64 0), .lit (.int .i64 0), .lit (.slice none 0 0), .lit (.slice none 0 0)] 54) := ⟨_, rfl⟩
        have e6 : Ext h3.n h3 hP := hhP ▸ (Ext.refl _ _).push _ (Nat.le_refl _)
        have nP : hP.n = h3.n + 1 := by rw [hhP, n_push]
        have PP : hP.at h3.n = some (.cells [.lit (.int .i64 5), .lit (.int .i64 0), .lit (.int .i64 0), .lit (.int .i64 p.id), .lit (.int .i64 p.size), .lit (.int .i64 p.min), .lit (.int .i64 p.pgs), .lit (.int .i64 0), .lit (.int .i64 0), .lit (.slice none 0 0), .lit (.slice none 0 0)] 54) := hhP ▸ at_push_n _ _
        have QP := (j3.ext e6).Q
        unfold dfC at QP
        have LQP := ld_at (T := tabOf Try.prog NT0) QP
        have os5 := j3.o.isSl
        rw [← hhP]
        refine ⟨same_sl os5, ?_⟩
        have hsz : ((L0 ++ (b.pools.take i).flatMap (chP a)).length + 1) * 120 ≤ 140737488355328 := by
          rw [show (L0 ++ (b.pools.take i).flatMap (chP a)).length = L0.length + ((b.pools.take i).flatMap (chP a)).length from List.length_append]
          exact sz_aux hL0n hlen hltp hl
        have hcI : (I64 (chPl p).kind ∧ I64 (chPl p).osd ∧ I64 (chPl p).value) ∧ okP (chPl p).pool ∧ I64 (chPl p).bucket.id ∧ I64 (chPl p).bucket.kind := ⟨⟨by show I64 5; unfold I64; decide, I64z, I64z⟩, ip, I64z, I64z⟩
        have hn3 : H.n + 3 ≤ hP.n := by omega
        have key := push_ch (cap := .kn 1) (x := chPl p) (j3.o.ext e6 (Nat.le_refl _)) hn3 PP .nil .nil hcI hsz
        refine WOpD_app key ?_
        rintro s6 h6 ⟨o6, f6⟩
        obtain ⟨Q6, j6⟩ := j3.pushed q0 e6 o6 f6
        unfold dfC at Q6
        have lQ6 := at_lt Q6
        have w1 := o6.isSl
        have w2 := o6.one
        repeat (first | ((with_reducible refine WDM_cons ?_; simp only [dw1]; try simp only [dw2, zrA, zrM, zrR, zrO, zrE]); simp only [core, zrA, zrS, zrM, zrL, zrE, reduceCtorEq, zrD, ziE, ziL, ziN, cored, hn, g2, g3, g6, g19, g20, g21, Q6, lQ6, w1, w2, hwi]) | simp only [core, zrA, zrS, zrM, zrL, zrE, reduceCtorEq, zrD, ziE, ziL, ziN, cored, hn, g2, g3, g6, g19, g20, g21, Q6, lQ6, w1, w2, hwi])
        refine ih _ _ ⟨⟨s6, ?_⟩, ?_⟩
        · rw [hfs, hcp, ← List.append_assoc]
          exact j6
        · simp only [core, zrA, zrS, zrM, zrL, zrE, reduceCtorEq, zrD, ziE, ziL, ziN, hn, g2, g3, g6, g19, g20, g21]
  · rintro t h hc ⟨⟨s', j⟩, hn, g2, g3, g6, g19, g20, g21⟩
    rw [List.take_of_length_le (by omega)] at j
    simp only [core, zrA, zrS, zrM, zrL, zrE, reduceCtorEq, zrD, ziE, ziL, ziN, hn, g2, g3, g6, g19, g20, g21, hc]
    obtain ⟨L1, hL1⟩ : ∃ L1, L1 = L0 ++ b.pools.flatMap (chP a) := ⟨_, rfl⟩
    have hP := fm_len (chP_len a) b.pools
    have hL1n : L1.length = L0.length + (b.pools.flatMap (chP a)).length := by rw [hL1, List.length_append]
    rw [← hL1] at j
    refine (buckets_x (xs := L1) ⟨j.Q, j.o, Ext.refl _ _⟩ (ma.extQ j.E) (mb.extQ j.E) q0 (by have := j.E.1; omega) oka okb (by rw [hL1n]; exact sz_aux2 hL0n hP hl)).mono ?_
    rintro _ h5 ⟨rfl, s5, j5'⟩
    have j5 : BJ a b vo vp vb uo up ub (H.n + 2) (H.n + 3) hq h5 (L1 ++ bkL a b) s5 := ⟨j5'.Q, j5'.o, j.E.trans j5'.E⟩
    obtain ⟨A5, B5⟩ := keep _ j5.E
    unfold mC at A5 B5
    have LA5 := ld_at (T := tabOf Try.prog NT0) A5
    have LB5 := ld_at (T := tabOf Try.prog NT0) B5
    have lA5 := at_lt A5
    have lB5 := at_lt B5
    have Q5 := j5.Q
    unfold dfC at Q5
    have LQ5 := ld_at (T := tabOf Try.prog NT0) Q5
    have lQ5 := at_lt Q5
    simp only [corem, WB_cond_s, put, ldL, WB_label, List.nil_append, List.drop_zero, List.take_zero, zrA, zrS, zrM, zrL, zrE, reduceCtorEq, zrD, ziE, ziL, ziN, hn, g2, g3, g6, g19, g20, g21, LA5, LB5, lA5, lB5, -WB_cond_s]
    have eqL : L1 ++ bkL a b ++ chL a b = dfL a b := by
      rw [hL1, hL0]
      unfold dfL rsL
      simp only [List.append_assoc]
    have hbk := bkL_len a b
    have hsz7 : ((L1 ++ bkL a b).length + 1) * 120 ≤ 140737488355328 := by
      rw [show (L1 ++ bkL a b).length = L1.length + (bkL a b).length from List.length_append, hL1n]
      exact sz_aux3 hL0n hP hbk hl
    refine WB_cut (fun t h' => (∃ s', BJ a b vo vp vb uo up ub (H.n + 2) (H.n + 3) hq h' (dfL a b) s') ∧ t.n = 95 ∧ t.get 2 = .ptr H.n 0 ∧ t.get 3 = .ptr (H.n + 1) 0 ∧ t.get 6 = .ptr (H.n + 2) 0) (fun k' K' hk => ?_) ?_
    · by_cases hlf : (a.leaf != b.leaf) = true
      · have hch : chL a b = [chLf b.leaf] := by unfold chL; rw [if_neg (bne_iff_ne.1 hlf)]
        simp only [core, zrA, zrS, zrM, zrL, zrE, reduceCtorEq, zrD, ziE, ziL, ziN, hn, g2, g3, g6, g19, g20, g21, hlf]
        rw [WB_regionD [0, 1, 2, 3, 4, 5, 6, 7, 8, 9, 10, 11, 12] 374075901509608849989249874936925840199771769274368 (by kernel_rfl)]
        repeat ((with_reducible refine WDM_cons ?_; simp only [dw1]; try simp only [dw2, zrA, zrM, zrR, zrO, zrE]); simp only [core, zrA, zrS, zrM, zrL, zrE, reduceCtorEq, zrD, ziE, ziL, ziN, cored, hn, g2, g3, g6, g19, g20, g21, LQ5, lQ5, LB5, lB5])
        obtain ⟨hP', hhP⟩ : ∃ hP, hP = h5.push (.cells [.lit (.int .i64 7), .lit (.int .i64 0), .lit (.int .i64 b.leaf), .lit (.int .i64 0), .lit (.int .i64 0), .lit (.int .i64 0), .lit (.int .i64 0), .lit (.int .i64 0), .lit (.int .i64 0), .lit (.slice none 0 0), .lit (.slice none 0 0)] 54) := ⟨_, rfl⟩
        have e6 : Ext h5.n h5 hP' := hhP ▸ (Ext.refl _ _).push _ (Nat.le_refl _)
        have nP : hP'.n = h5.n + 1 := by rw [hhP, n_push]
        have PP : hP'.at h5.n = some (.cells [.lit (.int .i64 7), .lit (.int .i64 0), .lit (.int .i64 b.leaf), .lit (.int .i64 0), .lit (.int .i64 0), .lit (.int .i64 0), .lit (.int .i64 0), .lit (.int .i64 0), .lit (.int .i64 0), .lit (.slice none 0 0), .lit (.slice none 0 0)] 54) := hhP ▸ at_push_n _ _
        have QP := (j5.ext e6).Q
        unfold dfC at QP
        have LQP := ld_at (T := tabOf Try.prog NT0) QP
        have os5 := j5.o.isSl
        have hn3 : H.n + 3 ≤ hP'.n := by have := j5.E.1; omega
        rw [← hhP]
        have key := push_ch (cap := .kn 1) (x := chLf b.leaf) (j5.o.ext e6 (Nat.le_refl _)) hn3 PP .nil .nil ⟨⟨by show I64 7; unfold I64; decide, I64z, ilb⟩, okp0, I64z, I64z⟩ hsz7
        refine ⟨same_sl os5, ?_⟩
        refine WOpD_app key ?_
        rintro s6 h6 ⟨o6, f6⟩
        obtain ⟨Q6, j6⟩ := j5.pushed q0 e6 o6 f6
        rw [← hch, eqL] at j6
        unfold dfC at Q6
        have lQ6 := at_lt Q6
        have w1 := o6.isSl
        have w2 := o6.one
        repeat (first | ((with_reducible refine WDM_cons ?_; simp only [dw1]; try simp only [dw2, zrA, zrM, zrR, zrO, zrE]); simp only [core, zrA, zrS, zrM, zrL, zrE, reduceCtorEq, zrD, ziE, ziL, ziN, cored, hn, g2, g3, g6, g19, g20, g21, Q6, lQ6, w1, w2]) | simp only [core, zrA, zrS, zrM, zrL, zrE, reduceCtorEq, zrD, ziE, ziL, ziN, cored, hn, g2, g3, g6, g19, g20, g21, Q6, lQ6, w1, w2])
        refine hk _ _ ⟨⟨s6, j6⟩, ?_⟩
        simp only [core, zrA, zrS, zrM, zrL, zrE, reduceCtorEq, zrD, ziE, ziL, ziN, hn, g2, g3, g6, g19, g20, g21]
      · have hlf2 := eq_false_of_ne_true hlf
        have hch : chL a b = [] := by unfold chL; rw [if_pos (Classical.not_not.1 fun hh => hlf (bne_iff_ne.2 hh))]
        rw [hch, List.append_nil] at eqL
        rw [eqL] at j5
        simp only [core, zrA, zrS, zrM, zrL, zrE, reduceCtorEq, zrD, ziE, ziL, ziN, hn, g2, g3, g6, g19, g20, g21, hlf2]
        refine hk _ _ ⟨⟨s5, j5⟩, ?_⟩
        simp only [core, zrA, zrS, zrM, zrL, zrE, reduceCtorEq, zrD, ziE, ziL, ziN, hn, g2, g3, g6, g19, g20, g21]
    rintro t h7 ⟨⟨s7, j7⟩, hn, g2, g3, g6⟩
    obtain ⟨A7, B7⟩ := keep _ j7.E
    unfold mC at A7 B7
    have LA7 := ld_at (T := tabOf Try.prog NT0) A7
    have LB7 := ld_at (T := tabOf Try.prog NT0) B7
    have lA7 := at_lt A7
    have lB7 := at_lt B7
    have Q7 := j7.Q
    unfold dfC at Q7
    have LQ7 := ld_at (T := tabOf Try.prog NT0) Q7
    have lQ7 := at_lt Q7
    have os7 := j7.o.isSl
    have o7 := j7.o.one
    have f7 := j7.E.1
    simp only [core, zrA, zrS, zrM, zrL, zrE, reduceCtorEq, zrD, ziE, ziL, ziN, hn, g2, g3, g6]
    rw [WB_regionD [0, 1, 2, 3, 4, 5, 6, 7, 12, 8, 9, 10, 11, 13, 14] 26958609644481050276842014375476628529744542396939976533458861162496 (by kernel_rfl)]
    repeat ((with_reducible refine WDM_cons ?_; simp only [dw1]; try simp only [dw2, zrA, zrM, zrR, zrO, zrE]); simp only [core, zrA, zrS, zrM, zrL, zrE, reduceCtorEq, zrD, ziE, ziL, ziN, cored, hn, g2, g3, g6, LA7, LB7, lA7, lB7, LQ7, lQ7, o1, o2, o3, o7])
    obtain ⟨hB, hhB⟩ : ∃ hB, hB = h7.push (.cells [.lit (.int .i64 0), .lit (.slice none 0 0), .lit (.slice none 0 0), .lit (.slice none 0 0), .lit (.int .i64 0)] 26) := ⟨_, rfl⟩
    have eB : Ext h7.n h7 hB := hhB ▸ (Ext.refl _ _).push _ (Nat.le_refl _)
    have C0 : hB.at h7.n = some (.cells [.lit (.int .i64 0), .lit (.slice none 0 0), .lit (.slice none 0 0), .lit (.slice none 0 0), .lit (.int .i64 0)] 26) := hhB ▸ at_push_n _ _
    have nB : hB.n = h7.n + 1 := by rw [hhB, n_push]
    have jB := j7.ext eB
    rw [← hhB]
    refine ⟨by simp only [same_sl, s1, s2, s3, os7, Bool.and_self], ?_⟩
    have mT : MpAt (fun _ => True) hB a vo vp vb := ⟨(ma.extQ jB.E).o.lift fun _ _ _ => ⟨rfl, trivial⟩, (ma.extQ jB.E).p.lift fun _ _ _ => ⟨rfl, trivial⟩, (ma.extQ jB.E).b.lift fun _ _ _ => ⟨rfl, trivial⟩⟩
    have cT : IsSl RCh (fun _ => True) hB s7 (dfL a b) := jB.o.toSl (fun _ _ => trivial) (fun _ _ => trivial)
    have hlen : (dfL a b).length ≤ 4 * MX + (b.pools.length + a.buckets.length + 3 * b.buckets.length + 1) := by
      have hcl := chL_len a b
      rw [← eqL, List.length_append, List.length_append, hL1n]
      omega
    have hno : NoB (dfL a b) := (osL_no wP a b _).append (rsL_no hb')
    refine (Apply_x ⟨b.epoch, dfL a b⟩ mT oka hb iea cT (sz_aux4 hlen hl) hno (fun i n hi hh => (hst i n hi hh).1)).mono ?_
    rintro _ h8 ⟨e8, ro, rp, rb, rfl, m8⟩
    have q1 := m8.o.one
    have q2 := m8.p.one
    have q3 := m8.b.one
    have C8 := (e8.2 _ (at_lt C0)).trans C0
    have lC8 := at_lt C8
    have f8 := e8.1
    obtain ⟨m', hm'⟩ : ∃ m', m' = (applyD a ⟨b.epoch, dfL a b⟩).1 := ⟨_, rfl⟩
    obtain ⟨er, her⟩ : ∃ er, er = (applyD a ⟨b.epoch, dfL a b⟩).2 := ⟨_, rfl⟩
    rw [← hm'] at m8
    rw [← hm', ← her]
    obtain ⟨hD, hhD⟩ : ∃ hD, hD = h8.put h7.n (.cells [.lit (.int .i64 m'.epoch), ro, rp, rb, .lit (.int .i64 m'.leaf)] 26) := ⟨_, rfl⟩
    have nD : hD.n = h8.n := by rw [hhD, n_put]
    have eD : Ext h7.n h7 hD := hhD ▸ (eB.trans (e8.mono (by omega))).put _ (by omega)
    have jD := j7.ext eD
    have DD : hD.at h7.n = some (.cells [.lit (.int .i64 m'.epoch), ro, rp, rb, .lit (.int .i64 m'.leaf)] 26) := hhD ▸ at_put lC8
    have LDD := ld_at (T := tabOf Try.prog NT0) DD
    have lDD := at_lt DD
    have mD : MpAt (fun k => hB.n ≤ k) hD m' ro rp rb := ⟨m8.o.lift fun k hk _ => ⟨hhD ▸ at_put_ne _ (by omega), hk⟩, m8.p.lift fun k hk _ => ⟨hhD ▸ at_put_ne _ (by omega), hk⟩, m8.b.lift fun k hk _ => ⟨hhD ▸ at_put_ne _ (by omega), hk⟩⟩
    obtain ⟨A9, B9⟩ := keep _ jD.E
    unfold mC at A9 B9
    have LB9 := ld_at (T := tabOf Try.prog NT0) B9
    have lB9 := at_lt B9
    have EH : Ext H.n H hD := EQ.trans (jD.E.mono (by omega))
    have nilR : IsSl RCh (fun k => H.n ≤ k) hD (.lit (.slice none 0 0)) [] := .nil
    unfold mpV
    by_cases he : er = 0
    · have hen : (er != 0) = false := by rw [he]; rfl
      have okm : OkMp m' := hm' ▸ applyD_ok hst (her ▸ he)
      repeat (first | ((with_reducible refine WDM_cons ?_; simp only [dw1]; try simp only [dw2, zrA, zrM, zrR, zrO, zrE]); simp only [core, zrA, zrS, zrM, zrL, zrE, reduceCtorEq, zrD, ziE, ziL, ziN, cored, hn, g2, g3, g6, C8, lC8, q1, q2, q3, hen, LDD, lDD, LB9, lB9, p1, p2, p3, aundef, ← hhD]) | simp only [core, zrA, zrS, zrM, zrL, zrE, reduceCtorEq, zrD, ziE, ziL, ziN, cored, hn, g2, g3, g6, C8, lC8, q1, q2, q3, hen, LDD, lDD, LB9, lB9, p1, p2, p3, aundef, ← hhD])
      refine (sameM_x mD (mb.extQ jD.E) okm).mono ?_
      rintro _ h9 ⟨e9, rfl⟩
      have j9 := jD.ext e9
      have Q9 := j9.Q
      unfold dfC at Q9
      have LQ9 := ld_at (T := tabOf Try.prog NT0) Q9
      have lQ9 := at_lt Q9
      have os9 := j9.o.isSl
      have o9 := j9.o.one
      have EH9 := EH.trans (e9.mono EH.1)
      by_cases hsm : m' = b
      · have hsd : sameD m' b = true := decide_eq_true hsm
        have hR : dfR a b (dfL a b) = (dfL a b, 0) := by unfold dfR; rw [if_pos ⟨her ▸ he, hm' ▸ hsm⟩]
        simp only [core, zrA, zrS, zrM, zrL, zrE, reduceCtorEq, zrD, ziE, ziL, ziN, hn, g2, g3, g6, hsd, aundef, LQ9, lQ9, hR]
        exact ⟨EH9, s7, rfl, j9.o.toSl (fun k hk => by omega) (fun k hk => by omega)⟩
      · have hsd : sameD m' b = false := decide_eq_false hsm
        have hR : dfR a b (dfL a b) = ([], 22) := by unfold dfR; rw [if_neg fun hh => hsm (hm' ▸ hh.2)]
        simp only [core, zrA, zrS, zrM, zrL, zrE, reduceCtorEq, zrD, ziE, ziL, ziN, hn, g2, g3, g6, hsd, aundef, LQ9, lQ9, hR]
        exact ⟨EH9, _, rfl, .nil⟩
    · have hen : (er != 0) = true := bne_iff_ne.2 he
      have hR : dfR a b (dfL a b) = ([], 22) := by unfold dfR; rw [if_neg fun hh => he (her ▸ hh.1)]
      repeat (first | ((with_reducible refine WDM_cons ?_; simp only [dw1]; try simp only [dw2, zrA, zrM, zrR, zrO, zrE]); simp only [core, zrA, zrS, zrM, zrL, zrE, reduceCtorEq, zrD, ziE, ziL, ziN, cored, hn, g2, g3, g6, C8, lC8, q1, q2, q3, hen, LDD, lDD, LB9, lB9, p1, p2, p3, aundef, hR, ← hhD]) | simp only [core, zrA, zrS, zrM, zrL, zrE, reduceCtorEq, zrD, ziE, ziL, ziN, cored, hn, g2, g3, g6, C8, lC8, q1, q2, q3, hen, LDD, lDD, LB9, lB9, p1, p2, p3, aundef, hR, ← hhD])
      exact ⟨EH, _, rfl, .nil⟩
  · refine ⟨⟨s1', by simpa using j1⟩, ?_⟩
    simp only [core, zrA, zrS, zrM, zrL, zrE, reduceCtorEq, zrD, ziE, ziL, ziN]
    first | done | exact ⟨rfl, rfl⟩ | trivial
end Go.Proofs.Ytmfhagahkkhbeaa.Ex
end

section

set_option linter.unusedSimpArgs false
set_option linter.unusedVariables false
namespace Go.Proofs.Ytmfhagahkkhbeaa.Ex
open Go Go.RowKit Go.ChangeShapes Go.WideShapes Go.ChangeAt
section
variable {H : Type} {enc : TypeId × Value → H} {W : World}
end
end Go.Proofs.Ytmfhagahkkhbeaa.Ex
end

section

set_option linter.unusedSimpArgs false
set_option linter.unusedVariables false
namespace Go.Proofs.Ytmfhagahkkhbeaa.Ex
open Go Go.RowKit Go.ChangeShapes Go.WideShapes Go.ChangeAt
theorem rels_absV {ρ : Nat → Value} {w : World} : ∀ {cs : List Value}, (∀ c ∈ cs, c.oneCell' = true) → rels ρ (mu0 w) w (cs.map (absV w)) cs
  | [], _ => rels_nil
  | c :: r, h => rels_cons (absV_rel (h c (by simp))) (rels_absV fun x hx => h x (by simp [hx]))
theorem law_join {W : World} {f : FuncId} {vs : List Value} {avs : List AV} (ha : rels (fun _ => default) (mu0 W) W avs vs) (hw : WC Try.prog (tabOf Try.prog NT0) S0 f avs (absH W) fun v h' => v = .lit (.bool true)) :
    Calls Try.prog f vs.toArray W fun e w' => e = .returned (.bool true) ∧ Below W.heap.size W w' := by
  obtain ⟨n, o, h1, hex, v, cm, rfl, rfl⟩ := hw
  refine (ex_callsH tab_sound noNG follows_mixed (sums_ok _ _) (absH_hr W) (absH_nw W) hex ha).mono fun e w' hy => ?_
  obtain ⟨v', μ', rfl, hb, hv⟩ := hy
  exact ⟨by rw [rel_bool_inv hv], hb⟩
end Go.Proofs.Ytmfhagahkkhbeaa.Ex
end

section

set_option linter.unusedSimpArgs false
set_option linter.unusedVariables false
namespace Go.Proofs.Ytmfhagahkkhbeaa.Ex
open Go Go.RowKit Go.ChangeShapes Go.WideShapes Go.ChangeAt
end Go.Proofs.Ytmfhagahkkhbeaa.Ex
end

section

set_option linter.unusedSimpArgs false
set_option linter.unusedVariables false
set_option maxRecDepth 10000
set_option maxHeartbeats 4000000
namespace Go.Proofs.Ytmfhagahkkhbeaa.Ex
open Go
theorem IsSl.loadExt {α : Type} {R : Rep α} {F : Nat → Prop} {T : TT} {h h' : AH} {v : AV} {xs : List α} (hs : IsSl R F h v xs) {i : Nat} {x : α} (hx : xs[i]? = some x) (he : Ext h.n h h') (e : TypeId) (off : Nat) : loadA T h' e (slB v) off = loadA T h e (slB v) off := by
  have hlt : slB v < h.n := by
    obtain ⟨L, r1, _, _, r3⟩ := hs.out
    rcases r1.2 with ⟨hh, h0⟩ | ⟨b, off, cap, row, hh, h1, h2⟩
    · have h4 := r3.1
      rw [h0] at h4
      have := (List.getElem?_eq_some_iff.1 hx).1
      simp at h4
      omega
    · rw [hh]
      exact getR_lt h1
  unfold loadA getR
  rw [he.2 _ hlt]
end Go.Proofs.Ytmfhagahkkhbeaa.Ex
end
