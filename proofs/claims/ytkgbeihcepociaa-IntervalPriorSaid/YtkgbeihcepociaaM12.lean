/- Part 12 of the proof: Ivc, Ivt, Ivu, Ivv, Ivx, Ivy, Ivl, Jn, Ivo, IntervalPriorWalk. -/
import Derived.Test.YtkgbeihcepociaaM11
section

set_option linter.unusedSimpArgs false
set_option linter.unusedVariables false
set_option maxRecDepth 10000
set_option maxHeartbeats 4000000
namespace Go.Proofs.Ytkgbeihcepociaa.Ex
open Go
def ivV (x : IvD) (va vb : AV) : AV := .agg [.lit (.int .i64 x.first), .lit (.int .i64 x.last), va, vb, .lit (.bool x.mayRw)]
theorem each1_x {F : Nat → Prop} {H : AH} {s : AV} {xs : List IvD} {p l : Nat} (hp : H.at p = some (.cells [s] 59)) (hv : IsSl RIv F H s xs) (hl : xs.length * 72 ≤ 140737488355328) (hs : ∀ x ∈ xs, x.acting.length * 8 ≤ 140737488355328 ∧ x.boots.length * 8 ≤ 140737488355328)
    (J : Nat → AH → Prop) (R : AH → Prop) (hJ : ∀ i h, J i h → Ext H.n H h) (hE : ∀ i h h', J i h → Ext h.n h h' → J i h')
    (hr : ∀ i x h0 h va vb, xs[i]? = some x → J i h0 → Ext h0.n h0 h → IsSl RInt (fun b => h0.n ≤ b) h va x.acting → IsSl RInt (fun b => h0.n ≤ b) h vb x.boots → I64 x.first → I64 x.last → WR Try.prog (tabOf Try.prog NT0) S0 l [ivV x va vb] h fun r h2 => ∃ b, r = .lit (.bool b) ∧ (b = true → J (i + 1) h2) ∧ (b = false → R h2))
    {h : AH} (h0 : J 0 h) : WC Try.prog (tabOf Try.prog NT0) S0 87 [.fn (.yield l) [] [], .ptr p 0] h fun _ h2 => J xs.length h2 ∨ R h2 := by
  refine WC_fn Try.func87 rfl rfl ?_
  have s1 := hv.isSl
  have s2 := hv.lenD
  have E0 := hJ _ _ h0
  have P0 := (E0.2 _ (at_lt hp)).trans hp
  have LP0 := ld_at (T := tabOf Try.prog NT0) P0
  have lp0 := at_lt P0
  simp only [core, Nat.reduceAdd, Nat.reduceSub, Nat.reduceMul, Nat.reduceLT, Nat.reduceEqDiff, reduceCtorEq, Nat.reduceLeDiff, Int.reduceLE, Int.reduceLT, Int.reduceToNat, Try.ntmps87, s1, s2, LP0, lp0]
  refine WB_for xs.length (fun i t h => J i h ∧ t.n = 24 ∧ t.get 0 = .fn (.yield l) [] [] ∧ t.get 1 = .ptr p 0 ∧ t.get 5 = s ∧ t.get 6 = .lit (.int .i64 xs.length) ∧ t.get 7 = .lit (.int .i64 i)) ?_ ?_ _ _ ?_
  · rintro i t h hlt hc ⟨hj, hn, g0, g1, g5, g6, g7⟩ ih
    have E := hJ _ _ hj
    obtain ⟨x, hx⟩ : ∃ x, xs[i]? = some x := ⟨_, List.getElem?_eq_getElem hlt⟩
    have hw := wrap_succ hlt (by omega)
    obtain ⟨c, hc1, hld, hld0⟩ := hv.atE (T := tabOf Try.prog NT0) E RIv_z hx
    obtain ⟨va, vb, rfl, ha, hb, f1, f2⟩ := RIv_is.1 hc1
    have a1 := ha.one
    have b1 := hb.one
    have a2 := ha.isSl
    have b2 := hb.isSl
    obtain ⟨hsa, hsb⟩ := hs x (List.mem_of_getElem? hx)
    simp only [core, Nat.reduceAdd, Nat.reduceSub, Nat.reduceMul, Nat.reduceLT, Nat.reduceEqDiff, reduceCtorEq, Nat.reduceLeDiff, Int.reduceLE, Int.reduceLT, Int.reduceToNat, s1, s2, hn, g0, g1, g5, g6, g7, hlt, hc, hw, hld, hld0, a1, b1]
    obtain ⟨h1, hh1⟩ : ∃ h1, h1 = h.push (.cells [.lit (.int .i64 x.first), .lit (.int .i64 x.last), va, vb, .lit (.bool x.mayRw)] 65) := ⟨_, rfl⟩
    have e1 : Ext h.n h h1 := hh1 ▸ (Ext.refl _ _).push _ (Nat.le_refl _)
    have X1 : h1.at h.n = some (.cells [.lit (.int .i64 x.first), .lit (.int .i64 x.last), va, vb, .lit (.bool x.mayRw)] 65) := hh1 ▸ at_push_n _ _
    have nx1 := at_lt X1
    have LX1 := ld_at (T := tabOf Try.prog NT0) X1
    rw [← hh1]
    clear hh1
    rw [WB_regionD [0, 1, 3, 4, 2, 6, 5, 7, 8, 9] 632895786129742360360258634752 (by kernel_rfl)]
    repeat ((with_reducible refine WDM_cons ?_; simp only [dw1]; try simp only [dw2, Nat.reduceAdd, Nat.reduceMul, Nat.reduceShiftRight, Nat.reduceMod, Nat.reduceEqDiff]); simp only [core, Nat.reduceAdd, Nat.reduceSub, Nat.reduceMul, Nat.reduceLT, Nat.reduceEqDiff, reduceCtorEq, Nat.reduceLeDiff, Int.reduceLE, Int.reduceLT, Int.reduceToNat, cored, hn, g0, g1, g5, g6, g7, LX1, nx1, a1, b1, a2, b2])
    refine (clone_x (ha.ext (E.step e1) (Nat.le_refl _)) hsa).mono ?_
    rintro ra h2 ⟨e2, ra1, -⟩
    have X2 := (e2.2 _ nx1).trans X1
    have nx2 := at_lt X2
    have LX2 := ld_at (T := tabOf Try.prog NT0) X2
    have ra2 := ra1.isSl
    have ra3 := ra1.one
    repeat ((with_reducible refine WDM_cons ?_; simp only [dw1]; try simp only [dw2, Nat.reduceAdd, Nat.reduceMul, Nat.reduceShiftRight, Nat.reduceMod, Nat.reduceEqDiff]); simp only [core, Nat.reduceAdd, Nat.reduceSub, Nat.reduceMul, Nat.reduceLT, Nat.reduceEqDiff, reduceCtorEq, Nat.reduceLeDiff, Int.reduceLE, Int.reduceLT, Int.reduceToNat, cored, hn, g0, g1, g5, g6, g7, LX2, nx2, a1, b1, a2, b2, ra2, ra3])
    refine (clone_x (hb.ext ((E.step e1).step e2) (Nat.le_refl _)) hsb).mono ?_
    rintro rb h3 ⟨e3, rb1, -⟩
    have X3 := (e3.2 _ nx2).trans X2
    have nx3 := at_lt X3
    have LX3 := ld_at (T := tabOf Try.prog NT0) X3
    have rb2 := rb1.isSl
    have rb3 := rb1.one
    have eh3 : Ext h.n h h3 := (e1.step e2).step e3
    repeat ((with_reducible refine WDM_cons ?_; simp only [dw1]; try simp only [dw2, Nat.reduceAdd, Nat.reduceMul, Nat.reduceShiftRight, Nat.reduceMod, Nat.reduceEqDiff]); simp only [core, Nat.reduceAdd, Nat.reduceSub, Nat.reduceMul, Nat.reduceLT, Nat.reduceEqDiff, reduceCtorEq, Nat.reduceLeDiff, Int.reduceLE, Int.reduceLT, Int.reduceToNat, cored, hn, g0, g1, g5, g6, g7, LX3, X3, nx3, a1, b1, a2, b2, ra2, ra3, rb2, rb3, WOp_round, call_yield])
    obtain ⟨h4, hh4⟩ : ∃ h4, h4 = (h3.put h.n (.cells [.lit (.int .i64 x.first), .lit (.int .i64 x.last), ra, vb, .lit (.bool x.mayRw)] 65)).put h.n (.cells [.lit (.int .i64 x.first), .lit (.int .i64 x.last), ra, rb, .lit (.bool x.mayRw)] 65) := ⟨_, rfl⟩
    have e4 : Ext h.n h h4 := hh4 ▸ (eh3.put _ (Nat.le_refl _)).put _ (Nat.le_refl _)
    have q4 : ∀ b, b ≠ h.n → h4.at b = h3.at b := fun b hb => hh4 ▸ (at_put_ne _ (fun h => hb h.symm)).trans (at_put_ne _ (fun h => hb h.symm))
    rw [← hh4]
    clear hh4
    have q1 := e1.1
    have q2 := e2.1
    refine (hr i x h h4 ra rb hx hj e4 (ra1.lift fun b hb hlt => ⟨(q4 b (by omega)).trans (e3.2 b hlt), by omega⟩) (rb1.lift fun b hb _ => ⟨q4 b (by omega), by omega⟩) f1 f2).mono ?_
    rintro _ h5 ⟨b, rfl, k1, k2⟩
    cases b with
    | true =>
      simp only [core, Nat.reduceAdd, Nat.reduceSub, Nat.reduceMul, Nat.reduceLT, Nat.reduceEqDiff, reduceCtorEq, Nat.reduceLeDiff, Int.reduceLE, Int.reduceLT, Int.reduceToNat, hn, g0, g1, g5, g6, g7, hw]
      exact ih _ _ ⟨k1 rfl, by simp only [core, Nat.reduceAdd, Nat.reduceSub, Nat.reduceMul, Nat.reduceLT, Nat.reduceEqDiff, reduceCtorEq, Nat.reduceLeDiff, Int.reduceLE, Int.reduceLT, Int.reduceToNat, hn, g0, g1, g5, g6, g7]⟩
    | false =>
      simp only [core, Nat.reduceAdd, Nat.reduceSub, Nat.reduceMul, Nat.reduceLT, Nat.reduceEqDiff, reduceCtorEq, Nat.reduceLeDiff, Int.reduceLE, Int.reduceLT, Int.reduceToNat, hn, g0, g1, g5, g6, g7]
      exact ⟨by simp, .inr (k2 rfl)⟩
  · rintro t h hc ⟨hj, hn, g0, g1, g5, g6, g7⟩
    simp only [core, Nat.reduceAdd, Nat.reduceSub, Nat.reduceMul, Nat.reduceLT, Nat.reduceEqDiff, reduceCtorEq, Nat.reduceLeDiff, Int.reduceLE, Int.reduceLT, Int.reduceToNat, s1, s2, hn, g0, g1, g5, g6, g7, hc]
    exact ⟨by simp, .inl hj⟩
  · simp only [core, Nat.reduceAdd, Nat.reduceSub, Nat.reduceMul, Nat.reduceLT, Nat.reduceEqDiff, reduceCtorEq, Nat.reduceLeDiff, Int.reduceLE, Int.reduceLT, Int.reduceToNat]
    refine ⟨h0, ?_⟩
    (repeat' apply And.intro) <;> first | rfl | trivial
theorem ivs_ok {pool seed : Int} {ms : List MapD} : ∀ x ∈ ivsF pool seed ms, x.acting.length ≤ 8 ∧ x.boots.length ≤ 8 := fun x hx => by
  unfold ivsF at hx
  obtain ⟨r, -, rfl⟩ := List.mem_map.1 hx
  unfold ivOf bootF
  simp only [List.length_map]
  exact ⟨actF_len, actF_len⟩
/-- All of them in a slice. -/
theorem seq_x {F : Nat → Prop} {H : AH} {s : AV} {xs : List IvD} {p : Nat} (hp : H.at p = some (.cells [s] 59)) (hv : IsSl RIv F H s xs) (hl : xs.length * 72 ≤ 140737488355328) (hs : ∀ x ∈ xs, x.acting.length * 8 ≤ 140737488355328 ∧ x.boots.length * 8 ≤ 140737488355328) :
    WC Try.prog (tabOf Try.prog NT0) S0 124 [.lit (.slice none 0 0), .fn (.func 87) [] [.ptr p 0]] H fun r h' => Ext H.n H h' ∧ OwnL RIv (fun b => H.n + 3 ≤ b) (H.n + 3) h' r 65 xs := by
  refine WC_fn Try.func124 rfl rfl ?_
  simp only [core, Nat.reduceAdd, Nat.reduceSub, Nat.reduceMul, Nat.reduceLT, Nat.reduceEqDiff, reduceCtorEq, Nat.reduceLeDiff, Int.reduceLE, Int.reduceLT, Int.reduceToNat, Try.ntmps124]
  generalize htt : TM.set _ 6 _ = tt
  have hn : tt.n = 13 := by rw [← htt]; simp only [core, Nat.reduceAdd, Nat.reduceSub, Nat.reduceMul, Nat.reduceLT, Nat.reduceEqDiff, reduceCtorEq, Nat.reduceLeDiff, Int.reduceLE, Int.reduceLT, Int.reduceToNat]
  have g2 : tt.get 2 = .ptr H.n 0 := by rw [← htt]; simp only [core, Nat.reduceAdd, Nat.reduceSub, Nat.reduceMul, Nat.reduceLT, Nat.reduceEqDiff, reduceCtorEq, Nat.reduceLeDiff, Int.reduceLE, Int.reduceLT, Int.reduceToNat]
  have g6 : tt.get 6 = .fn (.func 87) [] [.ptr p 0] := by rw [← htt]; simp only [core, Nat.reduceAdd, Nat.reduceSub, Nat.reduceMul, Nat.reduceLT, Nat.reduceEqDiff, reduceCtorEq, Nat.reduceLeDiff, Int.reduceLE, Int.reduceLT, Int.reduceToNat]
  clear htt
  generalize hh2 : AH.push H _ = h2
  have E2 : Ext H.n H h2 := hh2 ▸ (Ext.refl _ _).push _ (Nat.le_refl _)
  have n2 : h2.n = H.n + 1 := by rw [← hh2, n_push]
  have F2 : h2.at H.n = some (.cells [.lit (.slice none 0 0)] 59) := hh2 ▸ at_push_n _ _
  clear hh2
  refine WB_rangeW rfl (fv := .fn (.func 87) [] [.ptr p 0]) (by simp only [core, Nat.reduceAdd, Nat.reduceSub, Nat.reduceMul, Nat.reduceLT, Nat.reduceEqDiff, reduceCtorEq, Nat.reduceLeDiff, Int.reduceLE, Int.reduceLT, Int.reduceToNat, g6]) rfl fun LO hLO => ?_
  refine (each1_x (l := h2.n + 1) hp hv hl hs
    (fun i h => Ext H.n H h ∧ (∃ s, h.at H.n = some (.cells [s] 59) ∧ OwnL RIv (fun b => H.n + 3 ≤ b) (H.n + 3) h s 65 (xs.take i)) ∧ h.at (H.n + 2) = some (.loop LO) ∧ h.at (H.n + 1) = some .defd)
    (fun _ => False) (fun i h j => j.1) (fun i h h' ⟨j1, ⟨s, j5, j6⟩, j7, j8⟩ e => ⟨j1.step e, ⟨s, (e.2 _ (at_lt j5)).trans j5, j6.ext e (Nat.le_refl _)⟩, (e.2 _ (at_lt j7)).trans j7, (e.2 _ (at_lt j8)).trans j8⟩) ?_ ?_).mono ?_
  · rintro i x h0 h va vb hx ⟨j1, ⟨s, j5, j6⟩, j7, j8⟩ e0 ha hbb f1 f2
    have a1 := ha.one
    have b1 := hbb.one
    have hlt : i < xs.length := (List.getElem?_eq_some_iff.1 hx).1
    have htk : xs.take (i + 1) = xs.take i ++ [x] := by rw [List.take_add_one, hx]; rfl
    have k7 := (e0.2 _ (at_lt j7)).trans j7
    rw [n2]
    refine WR_round hLO k7 rfl ?_
    simp only [core, Nat.reduceAdd, Nat.reduceSub, Nat.reduceMul, Nat.reduceLT, Nat.reduceEqDiff, reduceCtorEq, Nat.reduceLeDiff, Int.reduceLE, Int.reduceLT, Int.reduceToNat, sp_cons, sp_nil, ivV, g2, hn, a1, b1]
    obtain ⟨h1, hh1⟩ : ∃ h1, h1 = h.push (.cells [.lit (.int .i64 x.first), .lit (.int .i64 x.last), va, vb, .lit (.bool x.mayRw)] 65) := ⟨_, rfl⟩
    have e1 : Ext h.n h h1 := hh1 ▸ (Ext.refl _ _).push _ (Nat.le_refl _)
    have X1 : h1.at h.n = some (.cells [.lit (.int .i64 x.first), .lit (.int .i64 x.last), va, vb, .lit (.bool x.mayRw)] 65) := hh1 ▸ at_push_n _ _
    rw [← hh1]
    clear hh1
    have l7 := (e1.2 _ (at_lt k7)).trans k7
    refine WB_beginL hLO rfl l7 ?_
    have EX := j1.step (e0.step e1)
    have ee := e0.step e1
    have hnh := at_lt j7
    have hne := e0.1
    have T5 := (ee.2 _ (at_lt j5)).trans j5
    have T6 := j6.ext ee (Nat.le_refl _)
    have T8 := (ee.2 _ (at_lt j8)).trans j8
    obtain ⟨hb, hhb⟩ : ∃ hb, hb = h1.put (H.n + 2) (.loop (busyL LO)) := ⟨_, rfl⟩
    have EB : Ext H.n H hb := hhb ▸ EX.put _ (by omega)
    have qb : ∀ b, b ≠ H.n + 2 → hb.at b = h1.at b := fun b hb => hhb ▸ at_put_ne _ (fun h => hb h.symm)
    have nb : hb.n = h1.n := by rw [hhb, n_put]
    have b7 : hb.at (H.n + 2) = some (.loop (busyL LO)) := hhb ▸ at_put_same _ (at_lt l7)
    rw [← hhb]
    clear hhb
    have b5 := (qb H.n (by omega)).trans T5
    have b8 := (qb (H.n + 1) (by omega)).trans T8
    have b6 : OwnL RIv (fun b => H.n + 3 ≤ b) (H.n + 3) hb s 65 (xs.take i) := T6.below (fun _ h => h) (fun b hb => qb _ (by omega))
    have bX := (qb h.n (by omega)).trans X1
    have lb5 := at_lt b5
    have LB5 := ld_at (T := tabOf Try.prog NT0) b5
    have lbX := at_lt bX
    have LBX := ld_at (T := tabOf Try.prog NT0) bX
    have so := b6.isSl
    have so1 := b6.one
    simp only [core, Nat.reduceAdd, Nat.reduceSub, Nat.reduceMul, Nat.reduceLT, Nat.reduceEqDiff, reduceCtorEq, Nat.reduceLeDiff, Int.reduceLE, Int.reduceLT, Int.reduceToNat, g2, hn, LB5, lb5, LBX, lbX, so, so1, a1, b1]
    obtain ⟨h8, hh8⟩ : ∃ h8, h8 = hb.push (.cells [.lit (.int .i64 x.first), .lit (.int .i64 x.last), va, vb, .lit (.bool x.mayRw)] 65) := ⟨_, rfl⟩
    have e8 : Ext hb.n hb h8 := hh8 ▸ (Ext.refl _ _).push _ (Nat.le_refl _)
    have X8 : h8.at hb.n = some (.cells [.lit (.int .i64 x.first), .lit (.int .i64 x.last), va, vb, .lit (.bool x.mayRw)] 65) := hh8 ▸ at_push_n _ _
    rw [← hh8]
    clear hh8
    have hil : (xs.take i).length + 1 ≤ xs.length := by rw [List.length_take]; omega
    have hap : ∀ b, h0.n ≤ b → Apart s b := fun b hb => j6.apart hb
    have he1 := e1.1
    refine WOp_app ((b6.ext e8 (Nat.le_refl _)).snoc (by kernel_rfl) (by kernel_rfl) (by kernel_rfl) (zv := .agg [.lit (.int .i64 0), .lit (.int .i64 0), .lit (.slice none 0 0), .lit (.slice none 0 0), .lit (.bool false)]) (by kernel_rfl) (by' := 72) (by kernel_rfl) rfl (by decide) (by decide) X8
      (y := x) (RIv_is.2 ⟨va, vb, rfl, ?_, ?_, f1, f2⟩) (by omega) (by omega) (by have := e8.1; omega)) ?_
    · exact ha.lift fun b hb hlt => ⟨(e8.2 b (by omega)).trans ((qb b (by omega)).trans (e1.2 b hlt)), by omega, hap b hb⟩
    · exact hbb.lift fun b hb hlt => ⟨(e8.2 b (by omega)).trans ((qb b (by omega)).trans (e1.2 b hlt)), by omega, hap b hb⟩
    rintro s9 h9 ⟨o9, e9, k9⟩
    have EE : Ext (H.n + 3) hb h9 := (e8.mono (by omega)).trans e9
    have S9 := (EE.2 _ (by omega)).trans b5
    have ls9 := at_lt S9
    have o91 := o9.one
    simp only [core, Nat.reduceAdd, Nat.reduceSub, Nat.reduceMul, Nat.reduceLT, Nat.reduceEqDiff, reduceCtorEq, Nat.reduceLeDiff, Int.reduceLE, Int.reduceLT, Int.reduceToNat, g2, hn, S9, ls9, o91]
    refine ⟨busyL LO, ?_, true, rfl, fun _ => ⟨?_, ⟨s9, ?_, ?_⟩, ?_, ?_⟩, fun h => by cases h⟩
    · exact (at_put_ne _ (by omega)).trans ((EE.2 _ (by omega)).trans b7)
    · exact ((EB.trans (EE.mono (by omega))).put _ (by omega)).put _ (by omega)
    · exact (at_put_ne _ (by omega)).trans (at_put_same _ ls9)
    · rw [htk]
      exact o9.below (fun _ h => h) (fun b hb => (at_put_ne _ (by omega)).trans (at_put_ne _ (by omega)))
    · exact (at_put_same _ (by rw [n_put]; exact at_lt ((EE.2 _ (by omega)).trans b7))).trans (by rw [hLO]; rfl)
    · exact (at_put_ne _ (by omega)).trans ((at_put_ne _ (by omega)).trans ((EE.2 _ (by omega)).trans b8))
  · have up : ∀ b x, h2.at b = some x → ((h2.push .defd).push (.loop LO)).at b = some x := fun b x hx => by
      have := at_lt hx
      exact (at_push_lt _ (by rw [n_push]; omega)).trans ((at_push_lt _ this).trans hx)
    refine ⟨(E2.push _ E2.1).push _ (by rw [n_push]; have := E2.1; omega), ⟨_, up _ _ F2, OwnL.nil⟩, ?_, ?_⟩
    · have := at_push_n (h2.push .defd) (.loop LO)
      rw [n_push, n2] at this
      exact this
    · have := at_push_n h2 .defd
      rw [n2] at this
      exact (at_push_lt _ (by rw [n_push]; omega)).trans this
  · rintro _ h (⟨j1, ⟨s, j5, j6⟩, j7, j8⟩ | hf)
    · refine ⟨LO, by rw [n2]; exact j7, by rw [hLO]; simp, ?_⟩
      obtain ⟨hb, hhb⟩ : ∃ hb, hb = h.put (h2.n + 1) (.loop { LO with state := .exhausted }) := ⟨_, rfl⟩
      have EB : Ext H.n H hb := hhb ▸ j1.put _ (by omega)
      have b5 : hb.at H.n = some (.cells [s] 59) := hhb ▸ (at_put_ne _ (by omega)).trans j5
      have b6 : OwnL RIv (fun b => H.n + 3 ≤ b) (H.n + 3) hb s 65 (xs.take xs.length) := hhb ▸ j6.below (fun _ h => h) (fun b hb => at_put_ne _ (by omega))
      have b8 : hb.at h2.n = some .defd := hhb ▸ (at_put_ne _ (by omega)).trans (by rw [n2]; exact j8)
      rw [← hhb]
      clear hhb
      have lb5 := at_lt b5
      have LB5 := ld_at (T := tabOf Try.prog NT0) b5
      have so := b6.isSl
      rw [hLO]
      simp only [core, Nat.reduceAdd, Nat.reduceSub, Nat.reduceMul, Nat.reduceLT, Nat.reduceEqDiff, reduceCtorEq, Nat.reduceLeDiff, Int.reduceLE, Int.reduceLT, Int.reduceToNat, Option.map_none, Option.toList_none, List.nil_append, g2, hn, LB5, lb5, so]
      refine ⟨b8, EB.put _ (by omega), ?_⟩
      rw [List.take_length] at b6
      exact b6.below (fun _ h => h) (fun b hb => at_put_ne _ (by omega))
    · exact hf.elim
theorem all_x {F : Nat → Prop} {H : AH} {v : AV} {ms : List MapD} (pool seed : Int) (hv : IsSl RMp F H v ms) (hl : Sm 88 ms) (hok : ∀ m ∈ ms, OkMp m) :
    WC Try.prog (tabOf Try.prog NT0) S0 32 [v, pgV pool seed] H fun r h' => Ext H.n H h' ∧ ∃ n0, H.n ≤ n0 ∧ OwnL RIv (fun b => n0 ≤ b) n0 h' r 65 (ivsF pool seed ms) := by
  refine WC_fn Try.func32 rfl rfl ?_
  have s1 := hv.isSl
  have o1 := hv.one
  simp only [core, Nat.reduceAdd, Nat.reduceSub, Nat.reduceMul, Nat.reduceLT, Nat.reduceEqDiff, reduceCtorEq, Nat.reduceLeDiff, Int.reduceLE, Int.reduceLT, Int.reduceToNat, Try.ntmps32, pgV, s1]
  obtain ⟨h1, hh1⟩ : ∃ h1, h1 = H.push (pgB pool seed) := ⟨_, rfl⟩
  have e1 : Ext H.n H h1 := hh1 ▸ (Ext.refl _ _).push _ (Nat.le_refl _)
  unfold pgB at hh1
  rw [← hh1]
  clear hh1
  refine (each_x pool seed (hv.ext e1 (Nat.le_refl _)) hl hok).mono ?_
  rintro _ h2 ⟨rfl, e2, s, hs, hiv⟩
  have hlen : (ivsF pool seed ms).length * 72 ≤ 140737488355328 := by
    have := ivsF_len (pool := pool) (seed := seed) (ms := ms)
    unfold Sm at hl
    omega
  simp only [core, Nat.reduceAdd, Nat.reduceSub, Nat.reduceMul, Nat.reduceLT, Nat.reduceEqDiff, reduceCtorEq, Nat.reduceLeDiff, Int.reduceLE, Int.reduceLT, Int.reduceToNat]
  have hcol : WC Try.prog (tabOf Try.prog NT0) S0 82 [.fn (.func 87) [] [.ptr (h1.n + 1) 0]] h2 fun r h' => Ext h2.n h2 h' ∧ OwnL RIv (fun b => h2.n + 3 ≤ b) (h2.n + 3) h' r 65 (ivsF pool seed ms) := by
    refine WC_fn Try.func82 rfl rfl ?_
    simp only [core, Nat.reduceAdd, Nat.reduceSub, Nat.reduceMul, Nat.reduceLT, Nat.reduceEqDiff, reduceCtorEq, Nat.reduceLeDiff, Int.reduceLE, Int.reduceLT, Int.reduceToNat, Try.ntmps82]
    refine (seq_x hs hiv hlen (fun x hx => by have := ivs_ok x hx; omega)).mono ?_
    rintro r h3 ⟨e3, o3⟩
    have r1 := o3.isSl
    simp only [core, Nat.reduceAdd, Nat.reduceSub, Nat.reduceMul, Nat.reduceLT, Nat.reduceEqDiff, reduceCtorEq, Nat.reduceLeDiff, Int.reduceLE, Int.reduceLT, Int.reduceToNat, r1]
    exact ⟨e3, o3⟩
  refine hcol.mono ?_
  rintro r h3 ⟨e3, o3⟩
  have r1 := o3.isSl
  simp only [core, Nat.reduceAdd, Nat.reduceSub, Nat.reduceMul, Nat.reduceLT, Nat.reduceEqDiff, reduceCtorEq, Nat.reduceLeDiff, Int.reduceLE, Int.reduceLT, Int.reduceToNat, r1]
  have q1 := e1.1
  have q2 := e2.1
  exact ⟨(e1.step e2).step e3, h2.n + 3, by omega, o3⟩
end Go.Proofs.Ytkgbeihcepociaa.Ex
end

section

set_option linter.unusedSimpArgs false
set_option linter.unusedVariables false
set_option maxRecDepth 10000
set_option maxHeartbeats 4000000
namespace Go.Proofs.Ytkgbeihcepociaa.Ex
open Go
end Go.Proofs.Ytkgbeihcepociaa.Ex
end

section

set_option linter.unusedSimpArgs false
set_option linter.unusedVariables false
set_option maxRecDepth 10000
set_option maxHeartbeats 4000000
namespace Go.Proofs.Ytkgbeihcepociaa.Ex
open Go
end Go.Proofs.Ytkgbeihcepociaa.Ex
end

section

set_option linter.unusedSimpArgs false
set_option linter.unusedVariables false
set_option maxRecDepth 10000
set_option maxHeartbeats 4000000
namespace Go.Proofs.Ytkgbeihcepociaa.Ex
open Go
theorem ints15_x {F G : Nat → Prop} {H : AH} {u v : AV} {xs ys : List Int} (hu : IsSl RInt F H u xs) (hv : IsSl RInt G H v ys) (hl : xs.length < 2 ^ 62) :
    WC Try.prog (tabOf Try.prog NT0) S0 84 [u, v] H fun r h' => h' = H ∧ r = .lit (.bool (xs == ys)) := by
  refine WC_fn Try.func84 rfl rfl ?_
  have s1 := hu.isSl
  have s2 := hu.lenD
  have s3 := hv.isSl
  have s4 := hv.lenD
  simp only [core, Nat.reduceAdd, Nat.reduceSub, Nat.reduceMul, Nat.reduceLT, Nat.reduceEqDiff, reduceCtorEq, Nat.reduceLeDiff, Int.reduceLE, Int.reduceLT, Int.reduceToNat, Try.ntmps84, s1, s2, s3, s4]
  refine ⟨fun he => ?_, fun he => ?_⟩
  · have : ¬ xs = ys := fun hh => by subst hh; simp at he
    congr 2
    simpa using this
  · have he : xs.length = ys.length := by simp at he; omega
    refine WB_for xs.length (fun i t h => h = H ∧ (xs.take i = ys.take i) ∧ t.n = 26 ∧ t.get 0 = u ∧ t.get 1 = v ∧ t.get 12 = .lit (.int .i64 xs.length) ∧ t.get 13 = .lit (.int .i64 i)) ?_ ?_ _ _ ?_
    · rintro i t h hlt hc ⟨rfl, hx, hn, g0, g1, g12, g13⟩ ih
      have hlt2 : i < ys.length := by omega
      have hld := hu.int (T := tabOf Try.prog NT0) (e := 3) (by kernel_rfl) (by kernel_rfl) hlt
      have hld2 := hv.int (T := tabOf Try.prog NT0) (e := 3) (by kernel_rfl) (by kernel_rfl) hlt2
      have hw := wrap_succ hlt (by omega)
      simp only [core, Nat.reduceAdd, Nat.reduceSub, Nat.reduceMul, Nat.reduceLT, Nat.reduceEqDiff, reduceCtorEq, Nat.reduceLeDiff, Int.reduceLE, Int.reduceLT, Int.reduceToNat, s1, s2, s3, s4, hn, g0, g1, g12, g13, hlt, hlt2, hc, hld, hw]
      rw [WB_regionD [0, 1, 2, 3, 4, 5, 6, 7, 8] 1205237335491016659828736 (by kernel_rfl)]
      repeat ((with_reducible refine WDM_cons ?_; simp only [dw1]; try simp only [dw2, Nat.reduceAdd, Nat.reduceMul, Nat.reduceShiftRight, Nat.reduceMod, Nat.reduceEqDiff]); simp only [core, Nat.reduceAdd, Nat.reduceSub, Nat.reduceMul, Nat.reduceLT, Nat.reduceEqDiff, reduceCtorEq, Nat.reduceLeDiff, Int.reduceLE, Int.reduceLT, Int.reduceToNat, cored, s1, s2, s3, s4, hn, g0, g1, g12, g13, hlt, hlt2, hc, hld, hld2, hw])
      have e1 : xs.getD i 0 = xs[i] := by simp [List.getD_eq_getElem?_getD, List.getElem?_eq_getElem hlt]
      have e2 : ys.getD i 0 = ys[i] := by simp [List.getD_eq_getElem?_getD, List.getElem?_eq_getElem hlt2]
      refine ⟨fun hq => ?_, fun hq => ?_⟩
      · have hq : ¬ xs.getD i 0 = ys.getD i 0 := by simpa using hq
        have : ¬ xs = ys := fun hh => by subst hh; exact hq rfl
        congr 2
        simpa using this
      · have hq : xs.getD i 0 = ys.getD i 0 := by simpa using hq
        refine ih _ _ ?_
        simp only [core, Nat.reduceAdd, Nat.reduceSub, Nat.reduceMul, Nat.reduceLT, Nat.reduceEqDiff, reduceCtorEq, Nat.reduceLeDiff, Int.reduceLE, Int.reduceLT, Int.reduceToNat, hn, g0, g1, g12, g13]
        rw [List.take_succ_eq_append_getElem hlt, List.take_succ_eq_append_getElem hlt2, hx, ← e1, ← e2, hq]
    · rintro t h hc ⟨rfl, hx, hn, g0, g1, g12, g13⟩
      simp only [core, Nat.reduceAdd, Nat.reduceSub, Nat.reduceMul, Nat.reduceLT, Nat.reduceEqDiff, reduceCtorEq, Nat.reduceLeDiff, Int.reduceLE, Int.reduceLT, Int.reduceToNat, s1, s2, hn, g0, g1, g12, g13, hc]
      rw [List.take_length, he, List.take_length] at hx
      simp [hx]
    · simp only [core, Nat.reduceAdd, Nat.reduceSub, Nat.reduceMul, Nat.reduceLT, Nat.reduceEqDiff, reduceCtorEq, Nat.reduceLeDiff, Int.reduceLE, Int.reduceLT, Int.reduceToNat]
      simp
theorem few_x {F : Nat → Prop} {H : AH} {v : AV} {ms : List MapD} (hv : IsSl RMp F H v ms) (hl : Sm 88 ms) :
    WC Try.prog (tabOf Try.prog NT0) S0 30 [v] H fun r h' => Ext H.n H h' ∧ ∃ b, r = .lit (.bool b) := by
  refine WC_fn Try.func30 rfl rfl ?_
  unfold Sm at hl
  have s1 := hv.isSl
  have s2 := hv.lenD
  simp only [core, Nat.reduceAdd, Nat.reduceSub, Nat.reduceMul, Nat.reduceLT, Nat.reduceEqDiff, reduceCtorEq, Nat.reduceLeDiff, Int.reduceLE, Int.reduceLT, Int.reduceToNat, Try.ntmps30, s1, s2]
  refine WB_for ms.length (fun i t h => Ext H.n H h ∧ ∃ n : Int, t.n = 26 ∧ t.get 3 = .lit (.int .i64 n) ∧ t.get 8 = v ∧ t.get 9 = .lit (.int .i64 ms.length) ∧ t.get 10 = .lit (.int .i64 i)) ?_ ?_ _ _ ?_
  · rintro i t h hlt hc ⟨E, n, hn, g3, g8, g9, g10⟩ ih
    obtain ⟨x, hx⟩ : ∃ x, ms[i]? = some x := ⟨_, List.getElem?_eq_getElem hlt⟩
    have hw := wrap_succ hlt (by omega)
    obtain ⟨c, hc1, hld, hld0⟩ := hv.atE (T := tabOf Try.prog NT0) E RMp_z hx
    obtain ⟨vo, vp, vb, rfl, m1, m2, m3, -⟩ := RMp_is.1 hc1
    have i1 := m1.one
    have i2 := m2.one
    have i3 := m3.one
    have j2 := m2.isSl
    have j3 := m3.isSl
    have k2 := m2.lenD
    have k3 := m3.lenD
    simp only [core, Nat.reduceAdd, Nat.reduceSub, Nat.reduceMul, Nat.reduceLT, Nat.reduceEqDiff, reduceCtorEq, Nat.reduceLeDiff, Int.reduceLE, Int.reduceLT, Int.reduceToNat, s1, s2, hn, g3, g8, g9, g10, hlt, hc, hw, hld, hld0, i1, i2, i3, j2, j3, k2, k3]
    refine ih _ _ ⟨E.push _ E.1, IntKind.i64.wrap (n + IntKind.i64.wrap ((x.buckets.length : Int) + (x.pools.length : Int))), ?_⟩
    simp only [core, Nat.reduceAdd, Nat.reduceSub, Nat.reduceMul, Nat.reduceLT, Nat.reduceEqDiff, reduceCtorEq, Nat.reduceLeDiff, Int.reduceLE, Int.reduceLT, Int.reduceToNat, hn, g3, g8, g9, g10]
  · rintro t h hc ⟨E, n, hn, g3, g8, g9, g10⟩
    simp only [core, Nat.reduceAdd, Nat.reduceSub, Nat.reduceMul, Nat.reduceLT, Nat.reduceEqDiff, reduceCtorEq, Nat.reduceLeDiff, Int.reduceLE, Int.reduceLT, Int.reduceToNat, s1, s2, hn, g3, g8, g9, g10, hc]
    exact ⟨E, _, rfl⟩
  · simp only [core, Nat.reduceAdd, Nat.reduceSub, Nat.reduceMul, Nat.reduceLT, Nat.reduceEqDiff, reduceCtorEq, Nat.reduceLeDiff, Int.reduceLE, Int.reduceLT, Int.reduceToNat]
    refine ⟨Ext.refl _ _, (ms.length : Int), ?_⟩
    (repeat' apply And.intro) <;> first | rfl | trivial
end Go.Proofs.Ytkgbeihcepociaa.Ex
end

section

set_option linter.unusedSimpArgs false
set_option linter.unusedVariables false
set_option maxRecDepth 10000
set_option maxHeartbeats 4000000
namespace Go.Proofs.Ytkgbeihcepociaa.Ex
open Go
def eqIv (x y : IvD) : Bool := x.first == y.first && x.last == y.last && x.mayRw == y.mayRw && x.acting == y.acting && x.boots == y.boots
theorem eqIv_iff {x y : IvD} : eqIv x y = true ↔ x = y := by
  obtain ⟨a, b, c, d, e⟩ := x
  obtain ⟨a', b', c', d', e'⟩ := y
  unfold eqIv
  simp only [Bool.and_eq_true, beq_iff_eq, IvD.mk.injEq]
  constructor
  · rintro ⟨⟨⟨⟨h1, h2⟩, h3⟩, h4⟩, h5⟩; exact ⟨h1, h2, h4, h5, h3⟩
  · rintro ⟨h1, h2, h4, h5, h3⟩; exact ⟨⟨⟨⟨h1, h2⟩, h3⟩, h4⟩, h5⟩
def eqIvs : List IvD → List IvD → Bool
  | [], [] => true
  | x :: xs, y :: ys => eqIv x y && eqIvs xs ys
  | _, _ => false
theorem eqIvs_iff : ∀ {xs ys : List IvD}, eqIvs xs ys = true ↔ xs = ys
  | [], [] => by simp [eqIvs]
  | x :: xs, y :: ys => by simp only [eqIvs, Bool.and_eq_true, eqIv_iff, eqIvs_iff, List.cons.injEq]
  | [], _ :: _ => by simp [eqIvs]
  | _ :: _, [] => by simp [eqIvs]
theorem eqIvs_false {xs ys : List IvD} (h : ¬ xs = ys) : eqIvs xs ys = false := by
  cases hq : eqIvs xs ys with
  | false => rfl
  | true => exact absurd (eqIvs_iff.1 hq) h
theorem same15_x {F G : Nat → Prop} {H : AH} {u v : AV} {xs ys : List IvD} (hu : IsSl RIv F H u xs) (hv : IsSl RIv G H v ys) (hl : xs.length < 2 ^ 62) (hs : ∀ x ∈ xs, x.acting.length < 2 ^ 62 ∧ x.boots.length < 2 ^ 62) :
    WC Try.prog (tabOf Try.prog NT0) S0 34 [u, v] H fun r h' => Ext H.n H h' ∧ r = .lit (.bool (eqIvs xs ys)) := by
  refine WC_fn Try.func34 rfl rfl ?_
  have s1 := hu.isSl
  have s2 := hu.lenD
  have s3 := hv.isSl
  have s4 := hv.lenD
  simp only [core, Nat.reduceAdd, Nat.reduceSub, Nat.reduceMul, Nat.reduceLT, Nat.reduceEqDiff, reduceCtorEq, Nat.reduceLeDiff, Int.reduceLE, Int.reduceLT, Int.reduceToNat, Try.ntmps34, s1, s2, s3, s4]
  refine ⟨fun he => ?_, fun he => ?_⟩
  · have : ¬ xs = ys := fun hh => by subst hh; simp at he
    exact ⟨Ext.refl _ _, by rw [eqIvs_false this]⟩
  · have he : xs.length = ys.length := by simp at he; omega
    refine WB_for xs.length (fun i t h => Ext H.n H h ∧ (xs.take i = ys.take i) ∧ t.n = 62 ∧ t.get 0 = u ∧ t.get 1 = v ∧ t.get 14 = .lit (.int .i64 xs.length) ∧ t.get 15 = .lit (.int .i64 i)) ?_ ?_ _ _ ?_
    · rintro i t h hlt hc ⟨E, hx, hn, g0, g1, g14, g15⟩ ih
      have hlt2 : i < ys.length := by omega
      obtain ⟨x, hxi⟩ : ∃ x, xs[i]? = some x := ⟨_, List.getElem?_eq_getElem hlt⟩
      obtain ⟨y, hyi⟩ : ∃ y, ys[i]? = some y := ⟨_, List.getElem?_eq_getElem hlt2⟩
      obtain ⟨c, hc1, hld, hld0⟩ := hu.at (T := tabOf Try.prog NT0) RIv_z hxi
      obtain ⟨va, vb, rfl, ha, hb, -, -⟩ := RIv_is.1 hc1
      obtain ⟨c, hc2, hld', hld0'⟩ := hv.at (T := tabOf Try.prog NT0) RIv_z hyi
      obtain ⟨ua, ub, rfl, ka, kb, -, -⟩ := RIv_is.1 hc2
      have a1 := ha.one
      have b1 := hb.one
      have a2 := ha.isSl
      have b2 := hb.isSl
      have a3 := ka.one
      have b3 := kb.one
      have a4 := ka.isSl
      have b4 := kb.isSl
      have hw := wrap_succ hlt (by omega)
      obtain ⟨hsa, hsb⟩ := hs x (List.mem_of_getElem? hxi)
      have hnd : ¬ x = y → ¬ xs = ys := fun hh hk => by subst hk; rw [hxi] at hyi; exact hh (Option.some.inj hyi)
      have e1 : ∀ X, Ext H.n H (h.push X) := fun X => E.push X E.1
      have e2 : ∀ X Y, Ext H.n H ((h.push X).push Y) := fun X Y => (e1 X).push Y (e1 X).1
      have du0 := hu.ldE (T := tabOf Try.prog NT0) (by omega) E
      have dv0 := hv.ldE (T := tabOf Try.prog NT0) (by omega) E
      have du1 := fun X => hu.ldE (T := tabOf Try.prog NT0) (by omega) (e1 X)
      have dv1 := fun X => hv.ldE (T := tabOf Try.prog NT0) (by omega) (e1 X)
      have du2 := fun X Y => hu.ldE (T := tabOf Try.prog NT0) (by omega) (e2 X Y)
      have dv2 := fun X Y => hv.ldE (T := tabOf Try.prog NT0) (by omega) (e2 X Y)
      simp only [core, Nat.reduceAdd, Nat.reduceSub, Nat.reduceMul, Nat.reduceLT, Nat.reduceEqDiff, reduceCtorEq, Nat.reduceLeDiff, Int.reduceLE, Int.reduceLT, Int.reduceToNat, s1, s2, s3, s4, hn, g0, g1, g14, g15, hlt, hlt2, hc, hw]
      rw [WB_regionD [0, 1, 2, 3, 4, 5, 6, 7, 8, 9, 10, 11] 11145968866915278311102671164127177101803520 (by kernel_rfl)]
      repeat ((with_reducible refine WDM_cons ?_; simp only [dw1]; try simp only [dw2, Nat.reduceAdd, Nat.reduceMul, Nat.reduceShiftRight, Nat.reduceMod, Nat.reduceEqDiff]); simp only [core, Nat.reduceAdd, Nat.reduceSub, Nat.reduceMul, Nat.reduceLT, Nat.reduceEqDiff, reduceCtorEq, Nat.reduceLeDiff, Int.reduceLE, Int.reduceLT, Int.reduceToNat, cored, s1, s2, s3, s4, hn, g0, g1, g14, g15, hlt, hlt2, hc, du0, dv0, du1, dv1, du2, dv2, hld, hld0, hld', hld0', hw, a1, b1, a3, b3, a2, b2, a4, b4])
      obtain ⟨h2, hh2⟩ : ∃ h2, h2 = (h.push (.cells [.lit (.int .i64 x.first), .lit (.int .i64 x.last), va, vb, .lit (.bool x.mayRw)] 65)).push (.cells [.lit (.int .i64 y.first), .lit (.int .i64 y.last), ua, ub, .lit (.bool y.mayRw)] 65) := ⟨_, rfl⟩
      have e2 : Ext h.n h h2 := hh2 ▸ ((Ext.refl _ _).push _ (Nat.le_refl _)).push _ (by rw [n_push]; omega)
      have X2 : h2.at h.n = some (.cells [.lit (.int .i64 x.first), .lit (.int .i64 x.last), va, vb, .lit (.bool x.mayRw)] 65) := hh2 ▸ (at_push_lt _ (by rw [n_push]; omega)).trans (at_push_n _ _)
      have Y2 : h2.at (h.n + 1) = some (.cells [.lit (.int .i64 y.first), .lit (.int .i64 y.last), ua, ub, .lit (.bool y.mayRw)] 65) := hh2 ▸ at_push_n _ _
      have nx2 := at_lt X2
      have ny2 := at_lt Y2
      have LX2 := ld_at (T := tabOf Try.prog NT0) X2
      have LY2 := ld_at (T := tabOf Try.prog NT0) Y2
      rw [← hh2]
      clear hh2
      have E2 := E.step e2
      have ha2 := ha.ext E2 (Nat.le_refl _)
      have hb2 := hb.ext E2 (Nat.le_refl _)
      have ka2 := ka.ext E2 (Nat.le_refl _)
      have kb2 := kb.ext E2 (Nat.le_refl _)
      have fail : eqIv x y = false → Ext H.n H h2 ∧ AV.lit (.bool false) = .lit (.bool (eqIvs xs ys)) := fun hh => ⟨E2, by rw [eqIvs_false (hnd fun hk => by rw [eqIv_iff.2 hk] at hh; cases hh)]⟩
      by_cases q1 : x.first = y.first
      case neg =>
        have q1' : (x.first != y.first) = true := by simpa using q1
        simp only [core, Nat.reduceAdd, Nat.reduceSub, Nat.reduceMul, Nat.reduceLT, Nat.reduceEqDiff, reduceCtorEq, Nat.reduceLeDiff, Int.reduceLE, Int.reduceLT, Int.reduceToNat, hn, g0, g1, g14, g15, LX2, nx2, LY2, ny2, q1', aundef]
        exact fail (by unfold eqIv; simp [q1])
      have q1' : (x.first != y.first) = false := by simpa using q1
      by_cases q2 : x.last = y.last
      case neg =>
        have q2' : (x.last != y.last) = true := by simpa using q2
        simp only [core, Nat.reduceAdd, Nat.reduceSub, Nat.reduceMul, Nat.reduceLT, Nat.reduceEqDiff, reduceCtorEq, Nat.reduceLeDiff, Int.reduceLE, Int.reduceLT, Int.reduceToNat, hn, g0, g1, g14, g15, LX2, nx2, LY2, ny2, q1', q2', aundef]
        exact fail (by unfold eqIv; simp [q2])
      have q2' : (x.last != y.last) = false := by simpa using q2
      by_cases q3 : x.mayRw = y.mayRw
      case neg =>
        have q3' : (x.mayRw == y.mayRw) = false := by simpa using q3
        simp only [core, Nat.reduceAdd, Nat.reduceSub, Nat.reduceMul, Nat.reduceLT, Nat.reduceEqDiff, reduceCtorEq, Nat.reduceLeDiff, Int.reduceLE, Int.reduceLT, Int.reduceToNat, hn, g0, g1, g14, g15, LX2, nx2, LY2, ny2, q1', q2', q3', aundef]
        exact fail (by unfold eqIv; simp [q3])
      have q3' : (x.mayRw == y.mayRw) = true := by simpa using q3
      simp only [core, Nat.reduceAdd, Nat.reduceSub, Nat.reduceMul, Nat.reduceLT, Nat.reduceEqDiff, reduceCtorEq, Nat.reduceLeDiff, Int.reduceLE, Int.reduceLT, Int.reduceToNat, hn, g0, g1, g14, g15, LX2, nx2, LY2, ny2, q1', q2', q3', a2, b2, a4, b4, aundef]
      refine (ints15_x ha2 ka2 hsa).mono ?_
      rintro _ h3 ⟨rfl, rfl⟩
      by_cases q4 : x.acting = y.acting
      case neg =>
        have q4' : (x.acting == y.acting) = false := by simpa using q4
        simp only [core, Nat.reduceAdd, Nat.reduceSub, Nat.reduceMul, Nat.reduceLT, Nat.reduceEqDiff, reduceCtorEq, Nat.reduceLeDiff, Int.reduceLE, Int.reduceLT, Int.reduceToNat, hn, g0, g1, g14, g15, LX2, nx2, LY2, ny2, q4', a2, b2, a4, b4, aundef]
        exact fail (by unfold eqIv; simp [q4])
      have q4' : (x.acting == y.acting) = true := by simpa using q4
      simp only [core, Nat.reduceAdd, Nat.reduceSub, Nat.reduceMul, Nat.reduceLT, Nat.reduceEqDiff, reduceCtorEq, Nat.reduceLeDiff, Int.reduceLE, Int.reduceLT, Int.reduceToNat, hn, g0, g1, g14, g15, LX2, nx2, LY2, ny2, q4', a2, b2, a4, b4, aundef]
      refine (ints15_x hb2 kb2 hsb).mono ?_
      rintro _ h3 ⟨rfl, rfl⟩
      by_cases q5 : x.boots = y.boots
      case neg =>
        have q5' : (x.boots == y.boots) = false := by simpa using q5
        simp only [core, Nat.reduceAdd, Nat.reduceSub, Nat.reduceMul, Nat.reduceLT, Nat.reduceEqDiff, reduceCtorEq, Nat.reduceLeDiff, Int.reduceLE, Int.reduceLT, Int.reduceToNat, hn, g0, g1, g14, g15, q5', aundef]
        exact fail (by unfold eqIv; simp [q5])
      have q5' : (x.boots == y.boots) = true := by simpa using q5
      simp only [core, Nat.reduceAdd, Nat.reduceSub, Nat.reduceMul, Nat.reduceLT, Nat.reduceEqDiff, reduceCtorEq, Nat.reduceLeDiff, Int.reduceLE, Int.reduceLT, Int.reduceToNat, hn, g0, g1, g14, g15, q5', hw, aundef]
      have hxy : x = y := eqIv_iff.1 (by unfold eqIv; simp [q1, q2, q3, q4, q5])
      refine ih _ _ ⟨E2, ?_, ?_⟩
      · rw [List.take_add_one, List.take_add_one, hxi, hyi, hx, hxy]
      · simp only [core, Nat.reduceAdd, Nat.reduceSub, Nat.reduceMul, Nat.reduceLT, Nat.reduceEqDiff, reduceCtorEq, Nat.reduceLeDiff, Int.reduceLE, Int.reduceLT, Int.reduceToNat, hn, g0, g1, g14, g15]
    · rintro t h hc ⟨E, hx, hn, g0, g1, g14, g15⟩
      simp only [core, Nat.reduceAdd, Nat.reduceSub, Nat.reduceMul, Nat.reduceLT, Nat.reduceEqDiff, reduceCtorEq, Nat.reduceLeDiff, Int.reduceLE, Int.reduceLT, Int.reduceToNat, s1, s2, hn, g0, g1, g14, g15, hc]
      rw [List.take_length, he, List.take_length] at hx
      exact ⟨E, by rw [eqIvs_iff.2 hx]⟩
    · simp only [core, Nat.reduceAdd, Nat.reduceSub, Nat.reduceMul, Nat.reduceLT, Nat.reduceEqDiff, reduceCtorEq, Nat.reduceLeDiff, Int.reduceLE, Int.reduceLT, Int.reduceToNat]
      exact ⟨Ext.refl _ _, by simp⟩
end Go.Proofs.Ytkgbeihcepociaa.Ex
end

section

set_option linter.unusedSimpArgs false
set_option linter.unusedVariables false
set_option maxRecDepth 10000
set_option maxHeartbeats 4000000
namespace Go.Proofs.Ytkgbeihcepociaa.Ex
open Go
def osdU : OsdD := ⟨true, true, 65536, 1, 1, 1⟩
def osdV : OsdD := ⟨true, false, 65536, 1, 1, 0⟩
def poolT : PoolD := ⟨1, 2, 2, 1⟩
def bktT : BktD := ⟨-1, 3, [0, 1], [65536, 65536]⟩
def mapU : MapD := ⟨1, [osdU, osdU], [poolT], [bktT], 0⟩
def mapV : MapD := ⟨2, [osdU, osdV], [poolT], [bktT], 0⟩
def twoD : List MapD := [mapU, mapV]
theorem IsSl.ofAt {α : Type} {R : Rep α} {F : Nat → Prop} {h : AH} {p : Nat} {e : TypeId} {L : List (List AV)} {xs : List α} {n : Nat} (hat : h.at p = some (.cells L.flatten e)) (hF : F p) (he : Els R F h L xs) (hn : xs.length = n) : IsSl R F h (.sl p 0 n (.kn n)) xs := by
  subst hn
  have hl := flat_len (z := R.z) he.lens
  refine .mk ⟨he.lens, .inr ⟨p, 0, .kn xs.length, L.flatten, by rw [he.1], by unfold getR; rw [hat], ?_⟩⟩ (fun b off n cap e => by cases e; exact hF) (fun b off n cap e => by cases e; exact Nat.le_refl _) he
  unfold cut
  rw [if_pos (by rw [hl]; omega), List.drop_zero, ← hl, List.take_length]
def pushL (h : AH) : List AB → AH
  | [] => h
  | x :: r => pushL (h.push x) r
theorem pushL_ext : ∀ {l : List AB} {h : AH} {n0 : Nat}, n0 ≤ h.n → Ext n0 h (pushL h l)
  | [], h, n0, _ => Ext.refl _ _
  | x :: r, h, n0, hn => ((Ext.refl _ _).push x hn).trans (pushL_ext (by rw [n_push]; omega))
theorem pushL_at : ∀ {l : List AB} {h : AH} {i : Nat} {x : AB}, l[i]? = some x → (pushL h l).at (h.n + i) = some x
  | y :: r, h, 0, x, e => by
    cases e
    exact ((pushL_ext (l := r) (Nat.le_refl (h.push y).n)).2 _ (by rw [n_push]; omega)).trans (at_push_n _ _)
  | y :: r, h, i + 1, x, e => by
    have := pushL_at (l := r) (h := h.push y) (i := i) (x := x) e
    rw [n_push] at this
    rw [show h.n + (i + 1) = h.n + 1 + i by omega]
    exact this
theorem two_x {H : AH} :
    WC Try.prog (tabOf Try.prog NT0) S0 81 [] H fun r h' => Ext H.n H h' ∧ IsSl RMp (fun b => H.n ≤ b) h' r twoD := by
  refine WC_fn Try.func81 rfl rfl ?_
  simp only [core, Nat.reduceAdd, Nat.reduceSub, Nat.reduceMul, Nat.reduceLT, Nat.reduceEqDiff, reduceCtorEq, Nat.reduceLeDiff, Int.reduceLE, Int.reduceLT, Int.reduceToNat, Try.ntmps81]
  obtain ⟨bs, hbs⟩ : ∃ bs : List AB, bs = [.cells [.lit (.int .i64 0), .lit (.int .i64 1)] 3, .cells [.lit (.int .i64 65536), .lit (.int .i64 65536)] 3, .cells [.lit (.int .i64 (-1)), .lit (.int .i64 3), .sl H.n 0 2 (.kn 2), .sl (H.n + 1) 0 2 (.kn 2)] 92, .cells [.lit (.bool true), .lit (.bool true), .lit (.int .i64 65536), .lit (.int .i64 1), .lit (.int .i64 1), .lit (.int .i64 1)] 43, .cells [.lit (.bool true), .lit (.bool true), .lit (.int .i64 65536), .lit (.int .i64 1), .lit (.int .i64 1), .lit (.int .i64 1), .lit (.bool true), .lit (.bool true), .lit (.int .i64 65536), .lit (.int .i64 1), .lit (.int .i64 1), .lit (.int .i64 1)] 43, .cells [.lit (.int .i64 1), .lit (.int .i64 2), .lit (.int .i64 2), .lit (.int .i64 1)] 94, .cells [.lit (.int .i64 (-1)), .lit (.int .i64 3), .sl H.n 0 2 (.kn 2), .sl (H.n + 1) 0 2 (.kn 2)] 92, .cells [.lit (.int .i64 1), .sl (H.n + 4) 0 2 (.kn 2), .sl (H.n + 5) 0 1 (.kn 1), .sl (H.n + 6) 0 1 (.kn 1), .lit (.int .i64 0)] 31, .cells [.lit (.int .i64 2), .sl (H.n + 9) 0 2 (.kn 2), .sl (H.n + 5) 0 1 (.kn 1), .sl (H.n + 6) 0 1 (.kn 1), .lit (.int .i64 0)] 31, .cells [.lit (.bool true), .lit (.bool true), .lit (.int .i64 65536), .lit (.int .i64 1), .lit (.int .i64 1), .lit (.int .i64 1), .lit (.bool true), .lit (.bool false), .lit (.int .i64 65536), .lit (.int .i64 1), .lit (.int .i64 1), .lit (.int .i64 0)] 43, .cells [.lit (.int .i64 1), .sl (H.n + 4) 0 2 (.kn 2), .sl (H.n + 5) 0 1 (.kn 1), .sl (H.n + 6) 0 1 (.kn 1), .lit (.int .i64 0), .lit (.int .i64 2), .sl (H.n + 9) 0 2 (.kn 2), .sl (H.n + 5) 0 1 (.kn 1), .sl (H.n + 6) 0 1 (.kn 1), .lit (.int .i64 0)] 31] := ⟨_, rfl⟩
  have hh : Ext H.n H (pushL H bs) ∧ IsSl RMp (fun b => H.n ≤ b) (pushL H bs) (.sl (H.n + 10) 0 2 (.kn 2)) twoD := by
    have at' : ∀ i x, bs[i]? = some x → (pushL H bs).at (H.n + i) = some x := fun i x e => pushL_at e
    have A0 := at' 0 _ (by rw [hbs]; rfl)
    have A1 := at' 1 _ (by rw [hbs]; rfl)
    have A4 := at' 4 _ (by rw [hbs]; rfl)
    have A5 := at' 5 _ (by rw [hbs]; rfl)
    have A6 := at' 6 _ (by rw [hbs]; rfl)
    have A9 := at' 9 _ (by rw [hbs]; rfl)
    have A10 := at' 10 _ (by rw [hbs]; rfl)
    refine ⟨pushL_ext (Nat.le_refl _), ?_⟩
    generalize pushL H bs = h' at A0 A1 A4 A5 A6 A9 A10
    have i64 : ∀ n : Int, -65536 ≤ n → n ≤ 65536 → I64 n := fun n a b => ⟨by omega, by omega⟩
    have S0 : IsSl RInt (fun b => H.n ≤ b) h' (.sl H.n 0 2 (.kn 2)) [0, 1] := IsSl.ofAt (L := [[.lit (.int .i64 0)], [.lit (.int .i64 1)]]) A0 (Nat.le_refl _) ((Els.nil.snoc (RInt_is.2 ⟨rfl, i64 _ (by decide) (by decide)⟩)).snoc (RInt_is.2 ⟨rfl, i64 _ (by decide) (by decide)⟩)) rfl
    have S1 : IsSl RInt (fun b => H.n ≤ b) h' (.sl (H.n + 1) 0 2 (.kn 2)) [65536, 65536] := IsSl.ofAt (L := [[.lit (.int .i64 65536)], [.lit (.int .i64 65536)]]) A1 (by omega) ((Els.nil.snoc (RInt_is.2 ⟨rfl, i64 _ (by decide) (by decide)⟩)).snoc (RInt_is.2 ⟨rfl, i64 _ (by decide) (by decide)⟩)) rfl
    have rU : ROsd.is (fun b => H.n ≤ b) h' [.lit (.bool true), .lit (.bool true), .lit (.int .i64 65536), .lit (.int .i64 1), .lit (.int .i64 1), .lit (.int .i64 1)] osdU := ROsd_is.2 ⟨rfl, i64 _ (by decide) (by decide), i64 _ (by decide) (by decide), i64 _ (by decide) (by decide), i64 _ (by decide) (by decide)⟩
    have rV : ROsd.is (fun b => H.n ≤ b) h' [.lit (.bool true), .lit (.bool false), .lit (.int .i64 65536), .lit (.int .i64 1), .lit (.int .i64 1), .lit (.int .i64 0)] osdV := ROsd_is.2 ⟨rfl, i64 _ (by decide) (by decide), i64 _ (by decide) (by decide), i64 _ (by decide) (by decide), i64 _ (by decide) (by decide)⟩
    have S4 : IsSl ROsd (fun b => H.n ≤ b) h' (.sl (H.n + 4) 0 2 (.kn 2)) [osdU, osdU] := IsSl.ofAt (L := [[.lit (.bool true), .lit (.bool true), .lit (.int .i64 65536), .lit (.int .i64 1), .lit (.int .i64 1), .lit (.int .i64 1)], [.lit (.bool true), .lit (.bool true), .lit (.int .i64 65536), .lit (.int .i64 1), .lit (.int .i64 1), .lit (.int .i64 1)]]) A4 (by omega) ((Els.nil.snoc rU).snoc rU) rfl
    have S9 : IsSl ROsd (fun b => H.n ≤ b) h' (.sl (H.n + 9) 0 2 (.kn 2)) [osdU, osdV] := IsSl.ofAt (L := [[.lit (.bool true), .lit (.bool true), .lit (.int .i64 65536), .lit (.int .i64 1), .lit (.int .i64 1), .lit (.int .i64 1)], [.lit (.bool true), .lit (.bool false), .lit (.int .i64 65536), .lit (.int .i64 1), .lit (.int .i64 1), .lit (.int .i64 0)]]) A9 (by omega) ((Els.nil.snoc rU).snoc rV) rfl
    have S5 : IsSl RPool (fun b => H.n ≤ b) h' (.sl (H.n + 5) 0 1 (.kn 1)) [poolT] := IsSl.ofAt (L := [[.lit (.int .i64 1), .lit (.int .i64 2), .lit (.int .i64 2), .lit (.int .i64 1)]]) A5 (by omega) (Els.nil.snoc (RPool_is.2 ⟨rfl, i64 _ (by decide) (by decide), i64 _ (by decide) (by decide), i64 _ (by decide) (by decide), i64 _ (by decide) (by decide)⟩)) rfl
    have S6 : IsSl RBkt (fun b => H.n ≤ b) h' (.sl (H.n + 6) 0 1 (.kn 1)) [bktT] := IsSl.ofAt (L := [[.lit (.int .i64 (-1)), .lit (.int .i64 3), .sl H.n 0 2 (.kn 2), .sl (H.n + 1) 0 2 (.kn 2)]]) A6 (by omega) (Els.nil.snoc (RBkt_is.2 ⟨_, _, rfl, S0, S1, i64 _ (by decide) (by decide), i64 _ (by decide) (by decide)⟩)) rfl
    have rm1 : RMp.is (fun b => H.n ≤ b) h' [.lit (.int .i64 1), .sl (H.n + 4) 0 2 (.kn 2), .sl (H.n + 5) 0 1 (.kn 1), .sl (H.n + 6) 0 1 (.kn 1), .lit (.int .i64 0)] mapU := RMp_is.2 ⟨_, _, _, rfl, S4, S5, S6, i64 _ (by decide) (by decide), i64 _ (by decide) (by decide)⟩
    have rm2 : RMp.is (fun b => H.n ≤ b) h' [.lit (.int .i64 2), .sl (H.n + 9) 0 2 (.kn 2), .sl (H.n + 5) 0 1 (.kn 1), .sl (H.n + 6) 0 1 (.kn 1), .lit (.int .i64 0)] mapV := RMp_is.2 ⟨_, _, _, rfl, S9, S5, S6, i64 _ (by decide) (by decide), i64 _ (by decide) (by decide)⟩
    exact IsSl.ofAt (L := [[.lit (.int .i64 1), .sl (H.n + 4) 0 2 (.kn 2), .sl (H.n + 5) 0 1 (.kn 1), .sl (H.n + 6) 0 1 (.kn 1), .lit (.int .i64 0)], [.lit (.int .i64 2), .sl (H.n + 9) 0 2 (.kn 2), .sl (H.n + 5) 0 1 (.kn 1), .sl (H.n + 6) 0 1 (.kn 1), .lit (.int .i64 0)]]) A10 (by omega) ((Els.nil.snoc rm1).snoc rm2) rfl
  rw [hbs] at hh
  exact hh
end Go.Proofs.Ytkgbeihcepociaa.Ex
end

section

set_option linter.unusedSimpArgs false
set_option linter.unusedVariables false
set_option maxRecDepth 10000
set_option maxHeartbeats 4000000
namespace Go.Proofs.Ytkgbeihcepociaa.Ex
open Go
theorem two_ok : ∀ m ∈ twoD, OkMp m := by
  intro m hm
  simp only [twoD, List.mem_cons, List.not_mem_nil, or_false] at hm
  rcases hm with rfl | rfl
  all_goals
    refine ⟨⟨by unfold Sm; decide, fun _ _ => trivial⟩, ⟨by unfold Sm; decide, fun _ _ => trivial⟩, ⟨by unfold Sm; decide, fun y hy => ?_⟩⟩
    have hy : y ∈ [bktT] := hy
    rw [List.mem_singleton] at hy
    subst hy
    exact ⟨by unfold Sm; decide, by unfold Sm; decide⟩
theorem two_ivs : (ivsF 1 0 twoD).map (fun x => (x.first, x.last, x.mayRw)) = [(1, 1, true), (2, 2, false)] := by decide +kernel
theorem two_first : firstF 1 0 twoD = 2 := by decide +kernel
theorem two_prior : (priorF 0 (ivsF 1 0 twoD)).length = 1 := by decide +kernel
theorem lives15_x {H : AH} : WC Try.prog (tabOf Try.prog NT0) S0 31 [] H fun r h' => Ext H.n H h' ∧ r = .lit (.bool true) := by
  refine WC_fn Try.func31 rfl rfl ?_
  simp only [core, Nat.reduceAdd, Nat.reduceSub, Nat.reduceMul, Nat.reduceLT, Nat.reduceEqDiff, reduceCtorEq, Nat.reduceLeDiff, Int.reduceLE, Int.reduceLT, Int.reduceToNat, Try.ntmps31]
  obtain ⟨h1, hh1⟩ : ∃ h1, h1 = H.push (.cells [.lit (.int .i64 1), .lit (.int .i64 0)] 56) := ⟨_, rfl⟩
  have E1 : Ext H.n H h1 := hh1 ▸ (Ext.refl _ _).push _ (Nat.le_refl _)
  have P1 : h1.at H.n = some (.cells [.lit (.int .i64 1), .lit (.int .i64 0)] 56) := hh1 ▸ at_push_n _ _
  rw [← hh1]
  clear hh1
  have lp1 := at_lt P1
  have LP1 := ld_at (T := tabOf Try.prog NT0) P1
  rw [WB_regionD [1, 0, 2, 3] 29440 (by kernel_rfl)]
  repeat ((with_reducible refine WDM_cons ?_; simp only [dw1]; try simp only [dw2, Nat.reduceAdd, Nat.reduceMul, Nat.reduceShiftRight, Nat.reduceMod, Nat.reduceEqDiff]); simp only [core, Nat.reduceAdd, Nat.reduceSub, Nat.reduceMul, Nat.reduceLT, Nat.reduceEqDiff, reduceCtorEq, Nat.reduceLeDiff, Int.reduceLE, Int.reduceLT, Int.reduceToNat, cored, LP1, lp1])
  refine two_x.mono ?_
  rintro v h2 ⟨e2, hv⟩
  have E2 := E1.step e2
  have P2 := (e2.2 _ lp1).trans P1
  have lp2 := at_lt P2
  have LP2 := ld_at (T := tabOf Try.prog NT0) P2
  have v1 := hv.isSl
  repeat ((with_reducible refine WDM_cons ?_; simp only [dw1]; try simp only [dw2, Nat.reduceAdd, Nat.reduceMul, Nat.reduceShiftRight, Nat.reduceMod, Nat.reduceEqDiff]); simp only [core, Nat.reduceAdd, Nat.reduceSub, Nat.reduceMul, Nat.reduceLT, Nat.reduceEqDiff, reduceCtorEq, Nat.reduceLeDiff, Int.reduceLE, Int.reduceLT, Int.reduceToNat, cored, LP2, lp2, v1])
  refine (all_x 1 0 hv (by unfold Sm; decide) two_ok).mono ?_
  rintro r h3 ⟨e3, n0, -, ho⟩
  have E3 := E2.step e3
  have r1 := ho.isSl
  have r2 := ho.lenD
  have hr := ho.toSl (F := fun _ => True) (fun _ _ => trivial) (fun _ _ => trivial)
  obtain ⟨xs, hxs⟩ : ∃ xs, xs = ivsF 1 0 twoD := ⟨_, rfl⟩
  have hmap := two_ivs
  have hpr := two_prior
  have hac := fun x hx => ivs_ok (pool := 1) (seed := 0) (ms := twoD) x hx
  rw [← hxs] at hr r2 hmap hpr hac
  obtain ⟨x, y, rfl⟩ : ∃ x y, xs = [x, y] := by
    match xs, hmap with
    | [x, y], _ => exact ⟨x, y, rfl⟩
    | [], h => simp at h
    | [_], h => simp at h
    | _ :: _ :: _ :: _, h => simp at h
  simp only [List.map_cons, List.map_nil, List.cons.injEq, Prod.mk.injEq, and_true] at hmap
  obtain ⟨⟨f1, f2, f3⟩, g1, g2, g3⟩ := hmap
  obtain ⟨c, hc1, hld, hld0⟩ := hr.at (T := tabOf Try.prog NT0) RIv_z (i := 0) rfl
  obtain ⟨va, vb, rfl, -⟩ := RIv_is.1 hc1
  obtain ⟨c, hc2, hld', hld0'⟩ := hr.at (T := tabOf Try.prog NT0) RIv_z (i := 1) rfl
  obtain ⟨ua, ub, rfl, -⟩ := RIv_is.1 hc2
  simp only [Nat.zero_mul, Nat.add_zero, Nat.one_mul, f1, f2, f3, g3] at hld hld0 hld' hld0'
  have r2 : lenD r = 2 := r2
  have P3 := (e3.2 _ lp2).trans P2
  have lp3 := at_lt P3
  repeat ((with_reducible refine WDM_cons ?_; simp only [dw1]; try simp only [dw2, Nat.reduceAdd, Nat.reduceMul, Nat.reduceShiftRight, Nat.reduceMod, Nat.reduceEqDiff]); simp only [core, Nat.reduceAdd, Nat.reduceSub, Nat.reduceMul, Nat.reduceLT, Nat.reduceEqDiff, reduceCtorEq, Nat.reduceLeDiff, Int.reduceLE, Int.reduceLT, Int.reduceToNat, cored, r1])
  rw [WB_regionD [0, 1, 2, 3, 4, 5, 6, 7, 8, 9, 10, 11, 12, 13, 14, 15, 16, 17, 18, 19, 20, 21, 22, 23, 24, 25, 26, 27, 28, 29, 30, 31, 32, 33, 34, 35, 36, 38, 37, 39, 40, 41, 42] 20110922251646537642132421906151569872943364259989109016880945412238388916792015009970852157851158110947368603491339289596345835558468903417571743530785022850888530136036152000767647319844125367678496370972940275815732132005785689859647616858718016294671913686963794017969212488819327369349009283321050081721442510910207782513382829651839254863670035665280922732301997373115565987903096236233199972629241155340038622978175260730195761315607033448893122584077788098250363931884127106218521008806390542039810619045307074896813133560438831211869258899880148992 (by kernel_rfl)]
  have hk : (((2 : Nat) : Int) == 2) = true := rfl
  have hk1 : ((1 : Int) == 1) = true := rfl
  have hk2 : 0 < 2 := by decide
  have hk3 : 1 < 2 := by decide
  repeat ((with_reducible refine WDM_cons ?_; simp only [dw1]; try simp only [dw2, Nat.reduceAdd, Nat.reduceMul, Nat.reduceShiftRight, Nat.reduceMod, Nat.reduceEqDiff]); simp only [core, Nat.reduceAdd, Nat.reduceSub, Nat.reduceMul, Nat.reduceLT, Nat.reduceEqDiff, reduceCtorEq, Nat.reduceLeDiff, Int.reduceLE, Int.reduceLT, Int.reduceToNat, cored, r1, r2, hk, hk1, hk2, hk3, hld, hld0, hld', hld0'])
  refine (prior_x 0 hr (by show 2 * 72 ≤ _; decide) (fun z hz => by have := hac z hz; omega)).mono ?_
  rintro q h4 ⟨e4, hq⟩
  have E4 := E3.step e4
  have q1 := hq.isSl
  have q2 := hq.lenD
  rw [hpr] at q2
  have P4 := (e4.2 _ lp3).trans P3
  have lp4 := at_lt P4
  have LP4 := ld_at (T := tabOf Try.prog NT0) P4
  have hk4 : (((1 : Nat) : Int) == 1) = true := rfl
  repeat ((with_reducible refine WDM_cons ?_; simp only [dw1]; try simp only [dw2, Nat.reduceAdd, Nat.reduceMul, Nat.reduceShiftRight, Nat.reduceMod, Nat.reduceEqDiff]); simp only [core, Nat.reduceAdd, Nat.reduceSub, Nat.reduceMul, Nat.reduceLT, Nat.reduceEqDiff, reduceCtorEq, Nat.reduceLeDiff, Int.reduceLE, Int.reduceLT, Int.reduceToNat, cored, q1, q2, hk4, LP4, lp4])
  refine two_x.mono ?_
  rintro v' h5 ⟨e5, hv'⟩
  have E5 := E4.step e5
  have P5 := (e5.2 _ lp4).trans P4
  have lp5 := at_lt P5
  have LP5 := ld_at (T := tabOf Try.prog NT0) P5
  have v1' := hv'.isSl
  repeat ((with_reducible refine WDM_cons ?_; simp only [dw1]; try simp only [dw2, Nat.reduceAdd, Nat.reduceMul, Nat.reduceShiftRight, Nat.reduceMod, Nat.reduceEqDiff]); simp only [core, Nat.reduceAdd, Nat.reduceSub, Nat.reduceMul, Nat.reduceLT, Nat.reduceEqDiff, reduceCtorEq, Nat.reduceLeDiff, Int.reduceLE, Int.reduceLT, Int.reduceToNat, cored, LP5, lp5, v1'])
  refine (first_x 1 0 hv' (by unfold Sm; decide) two_ok).mono ?_
  rintro _ h6 ⟨e6, rfl⟩
  rw [two_first]
  have hk5 : ((2 : Int) == 2) = true := rfl
  repeat ((with_reducible refine WDM_cons ?_; simp only [dw1]; try simp only [dw2, Nat.reduceAdd, Nat.reduceMul, Nat.reduceShiftRight, Nat.reduceMod, Nat.reduceEqDiff]); simp only [core, Nat.reduceAdd, Nat.reduceSub, Nat.reduceMul, Nat.reduceLT, Nat.reduceEqDiff, reduceCtorEq, Nat.reduceLeDiff, Int.reduceLE, Int.reduceLT, Int.reduceToNat, cored, hk5])
  exact E5.step e6
end Go.Proofs.Ytkgbeihcepociaa.Ex
end

section

set_option linter.unusedSimpArgs false
set_option linter.unusedVariables false
namespace Go.Proofs.Ytkgbeihcepociaa.Ex
open Go Go.RowKit Go.ChangeShapes Go.WideShapes Go.ChangeAt
theorem rels_absV {ρ : Nat → Value} {w : World} : ∀ {cs : List Value}, (∀ c ∈ cs, c.oneCell' = true) → rels ρ (mu0 w) w (cs.map (absV w)) cs
  | [], _ => rels_nil
  | c :: r, h => rels_cons (absV_rel (h c (by simp))) (rels_absV fun x hx => h x (by simp [hx]))
theorem law_join {W : World} {f : FuncId} {vs : List Value} {avs : List AV} (ha : rels (fun _ => default) (mu0 W) W avs vs) (hw : WC Try.prog (tabOf Try.prog NT0) S0 f avs (absH W) fun v h' => v = .lit (.bool true)) :
    Calls Try.prog f vs.toArray W fun e w' => e = .returned (.bool true) ∧ Below W.heap.size W w' := by
  obtain ⟨n, o, h1, hex, v, cm, rfl, rfl⟩ := hw
  refine (ex_callsH tab_sound noNG follows_mixed (sums_ok _ _) (absH_hr W) (absH_nw W) hex ha).mono fun e w' hy => ?_
  obtain ⟨v', μ', rfl, hb, hv⟩ := hy
  exact ⟨by rw [rel_bool_inv hv], hb⟩
theorem open_agg {P : Program} {H : Type} {enc : TypeId × Value → H} {W : World} {base : Nat} {t : TypeId} {v0 : Value} {d0 : DataW H} {p0 : List MemPlace} {d : TypeDesc} {α : Type} {R : Rep α} {B : α → Prop} (hO : OpensA enc P W t R B) (hu : P.underlying t = some d) (hd : isAggD d = true)
    (k0 : Value.okWide P W .any base t v0) (h0 : DataW.Trod enc P W 0 (fun _ => true) true t v0 d0 p0) (hw : ∀ n ∈ d0.weights P t, n ≤ reachBytes) :
    ∃ (cs : List AV) (y : α), rel (fun _ => default) (mu0 W) W (.agg cs) v0 ∧ R.is (InH W) (absH W) cs y ∧ B y := by
  obtain ⟨cs, rfl, h1, h2⟩ := okWide_agg hu hd k0
  obtain ⟨fuel, hf⟩ := h0
  obtain ⟨h3, h4, y, h5, h6⟩ := hO.2 fuel cs.toList _ hf (List.all_eq_true.2 fun n hn => (by simpa using hw n hn))
  refine ⟨_, y, ?_, h5, h6⟩
  unfold rel
  exact ⟨cs.toList, by simp, rels_absV h4⟩
end Go.Proofs.Ytkgbeihcepociaa.Ex
end

section

set_option linter.unusedSimpArgs false
set_option linter.unusedVariables false
namespace Go.Proofs.Ytkgbeihcepociaa.Ex
open Go Go.RowKit Go.ChangeShapes Go.WideShapes Go.ChangeAt
theorem open_sl {P : Program} {H : Type} {enc : TypeId × Value → H} {W : World} {base : Nat} {t e : TypeId} {v0 : Value} {d0 : DataW H} {p0 : List MemPlace} {α : Type} {R : Rep α} {B : List α → Prop} (hO : OpensA enc P W t (RSl R) B) (hu : P.underlying t = some (.slice e))
    (k0 : Value.okWide P W .any base t v0) (h0 : DataW.Trod enc P W 0 (fun _ => true) true t v0 d0 p0) (hw : ∀ n ∈ d0.weights P t, n ≤ reachBytes) :
    ∃ (v : AV) (ys : List α), rel (fun _ => default) (mu0 W) W v v0 ∧ IsSl R (InH W) (absH W) v ys ∧ B ys := by
  obtain ⟨a, len, cap, rfl⟩ := okWide_slice hu k0
  obtain ⟨fuel, hf⟩ := h0
  obtain ⟨h3, h4, y, h5, h6⟩ := hO.2 fuel [Value.slice a len cap] _ hf (List.all_eq_true.2 fun n hn => (by simpa using hw n hn))
  obtain ⟨v', e', h5⟩ := RSl_is.1 h5
  cases e'
  exact ⟨_, y, absV_rel (h4 _ (by simp)), h5, h6⟩
end Go.Proofs.Ytkgbeihcepociaa.Ex
end

section

set_option linter.unusedSimpArgs false
set_option linter.unusedVariables false
set_option maxRecDepth 10000
set_option maxHeartbeats 4000000
namespace Go.Proofs.Ytkgbeihcepociaa.Ex
open Go Go.RowKit Go.ChangeShapes Go.WideShapes Go.ChangeAt
theorem ivs_acts {pool seed : Int} {ms : List MapD} : ∀ x ∈ ivsF pool seed ms, x.mayRw = true → x.acting ≠ [] := fun x hx hm ha => by
  unfold ivsF at hx
  obtain ⟨r, -, rfl⟩ := List.mem_map.1 hx
  unfold ivOf at hm ha
  simp only at hm ha
  rw [ha] at hm
  cases hm
theorem intervalPrior_m {F : Nat → Prop} {H : AH} {v : AV} {ms : List MapD} (pool seed les : Int) (hv : IsSl RMp F H v ms) (hl : Sm 88 ms) (hok : ∀ m ∈ ms, OkMp m) :
    WC Try.prog (tabOf Try.prog NT0) S0 8 [v, pgV pool seed, .lit (.int .i64 les)] H fun r h' => r = .lit (.bool true) := by
  refine WC_fn Try.func8 rfl rfl ?_
  have s1 := hv.isSl
  have s2 := hv.lenD
  have hl' := hl
  unfold Sm at hl'
  simp only [core, Nat.reduceAdd, Nat.reduceSub, Nat.reduceMul, Nat.reduceLT, Nat.reduceEqDiff, reduceCtorEq, Nat.reduceLeDiff, Int.reduceLE, Int.reduceLT, Int.reduceToNat, Try.ntmps8, pgV, s1, s2]
  obtain ⟨h1, hh1⟩ : ∃ h1, h1 = H.push (pgB pool seed) := ⟨_, rfl⟩
  have E1 : Ext H.n H h1 := hh1 ▸ (Ext.refl _ _).push _ (Nat.le_refl _)
  have P1 : h1.at H.n = some (pgB pool seed) := hh1 ▸ at_push_n _ _
  unfold pgB at hh1
  rw [← hh1]
  clear hh1
  have lp1 := at_lt P1
  refine (few_x (hv.ext E1 (Nat.le_refl _)) hl).mono ?_
  rintro _ h2 ⟨e2, bf, rfl⟩
  have E2 := E1.step e2
  have P2 := (e2.2 _ lp1).trans P1
  have lp2 := at_lt P2
  have LP2 := ld_at (T := tabOf Try.prog NT0) P2
  unfold pgB at LP2
  cases bf with
  | false =>
    simp only [core, Nat.reduceAdd, Nat.reduceSub, Nat.reduceMul, Nat.reduceLT, Nat.reduceEqDiff, reduceCtorEq, Nat.reduceLeDiff, Int.reduceLE, Int.reduceLT, Int.reduceToNat]
    refine lives15_x.mono ?_
    rintro _ h3 ⟨e3, rfl⟩
    simp only [core, Nat.reduceAdd, Nat.reduceSub, Nat.reduceMul, Nat.reduceLT, Nat.reduceEqDiff, reduceCtorEq, Nat.reduceLeDiff, Int.reduceLE, Int.reduceLT, Int.reduceToNat]
  | true =>
  simp only [core, Nat.reduceAdd, Nat.reduceSub, Nat.reduceMul, Nat.reduceLT, Nat.reduceEqDiff, reduceCtorEq, Nat.reduceLeDiff, Int.reduceLE, Int.reduceLT, Int.reduceToNat, s1, s2, LP2, lp2]
  refine (all_x pool seed (hv.ext E2 (Nat.le_refl _)) hl hok).mono ?_
  rintro r h3 ⟨e3, n0, -, hown⟩
  have E3 := E2.step e3
  have P3 := (e3.2 _ lp2).trans P2
  have lp3 := at_lt P3
  have LP3 := ld_at (T := tabOf Try.prog NT0) P3
  unfold pgB at LP3
  have hr := hown.toSl (F := fun _ => True) (fun _ _ => trivial) (fun _ _ => trivial)
  have hil := ivsF_len (pool := pool) (seed := seed) (ms := ms)
  have hac := fun x hx => ivs_ok (pool := pool) (seed := seed) (ms := ms) x hx
  have hne := fun x hx => ivs_acts (pool := pool) (seed := seed) (ms := ms) x hx
  have hfi := firstF_ivs (pool := pool) (seed := seed) (ms := ms)
  have hnil : ms = [] → ivsF pool seed ms = [] := fun h => by subst h; rfl
  have hcons : ms ≠ [] → ivsF pool seed ms ≠ [] := fun h hh => by
    obtain ⟨a, ha⟩ := runsF_last (pool := pool) (seed := seed) h
    unfold ivsF at hh
    rw [List.map_eq_nil_iff.1 hh] at ha
    cases ha
  generalize ivsF pool seed ms = xs at hr hil hac hne hfi hnil hcons
  have r1 := hr.isSl
  have r2 := hr.lenD
  simp only [core, Nat.reduceAdd, Nat.reduceSub, Nat.reduceMul, Nat.reduceLT, Nat.reduceEqDiff, reduceCtorEq, Nat.reduceLeDiff, Int.reduceLE, Int.reduceLT, Int.reduceToNat, s1, s2, r1]
  refine (prior_x les hr (by omega) (fun z hz => by have := hac z hz; omega)).mono ?_
  rintro q h4 ⟨e4, hq⟩
  have E4 := E3.step e4
  have q1 := hq.isSl
  have q2 := hq.lenD
  have hrx := hr.ext e4 (Nat.le_refl _)
  have P4 := (e4.2 _ lp3).trans P3
  have lp4 := at_lt P4
  have hpl : (priorF les xs).length ≤ xs.length := by
    have := List.length_filter_le (askF les) xs.dropLast
    rw [List.length_dropLast] at this
    exact Nat.le_trans this (by omega)
  have hcapr : CapOk 5 r := by obtain ⟨L, -, -, hc, -⟩ := hr.out; exact hc
  have hcapq : CapOk 5 q := by obtain ⟨L, -, -, hc, -⟩ := hq.out; exact hc
  simp only [core, Nat.reduceAdd, Nat.reduceSub, Nat.reduceMul, Nat.reduceLT, Nat.reduceEqDiff, reduceCtorEq, Nat.reduceLeDiff, Int.reduceLE, Int.reduceLT, Int.reduceToNat, r1, r2, q1, q2]
  refine WB_for xs.length (fun i t h => Ext h4.n h4 h ∧ t.n = 126 ∧ t.get 0 = v ∧ t.get 2 = .lit (.int .i64 les) ∧ t.get 4 = .ptr H.n 0 ∧ t.get 7 = r ∧ t.get 8 = q ∧ t.get 9 = .lit (.int .i64 ((xs.dropLast.take i).filter (askF les)).length) ∧ t.get 22 = r ∧ t.get 23 = .lit (.int .i64 xs.length) ∧ t.get 24 = .lit (.int .i64 i)) ?_ ?_ _ _ ?_
  · rintro i t h hlt hc ⟨e5, hn, g0, g2, g4, g7, g8, g9, g22, g23, g24⟩ ih
    obtain ⟨x, hx⟩ : ∃ x, xs[i]? = some x := ⟨_, List.getElem?_eq_getElem hlt⟩
    have hxm := List.mem_of_getElem? hx
    have hw := wrap_succ hlt (by omega)
    obtain ⟨c, hc1, hld, hld0⟩ := hrx.atE (T := tabOf Try.prog NT0) e5 RIv_z hx
    obtain ⟨va, vb, rfl, ha, hb, f1, f2⟩ := RIv_is.1 hc1
    have a1 := ha.one
    have b1 := hb.one
    have a2 := ha.isSl
    have a3 := ha.lenD
    obtain ⟨k, hk⟩ : ∃ k, k = ((xs.dropLast.take i).filter (askF les)).length := ⟨_, rfl⟩
    have hkle : k ≤ i := by
      have := List.length_filter_le (askF les) (xs.dropLast.take i)
      rw [List.length_take] at this
      omega
    have hwk : IntKind.i64.wrap ((k : Int) + 1) = ((k + 1 : Nat) : Int) := (wrap_in (by omega) (by omega)).trans (by omega)
    have hw' : IntKind.i64.wrap ((i : Int) + 1) = ((i + 1 : Nat) : Int) := hw
    rw [← hk] at g9
    simp only [core, Nat.reduceAdd, Nat.reduceSub, Nat.reduceMul, Nat.reduceLT, Nat.reduceEqDiff, reduceCtorEq, Nat.reduceLeDiff, Int.reduceLE, Int.reduceLT, Int.reduceToNat, r1, r2, q1, q2, hn, g0, g2, g4, g7, g8, g9, g22, g23, g24, hlt, hc, hw, hld, hld0, a1, b1]
    obtain ⟨h6, hh6⟩ : ∃ h6, h6 = h.push (.cells [.lit (.int .i64 x.first), .lit (.int .i64 x.last), va, vb, .lit (.bool x.mayRw)] 65) := ⟨_, rfl⟩
    have e6 : Ext h.n h h6 := hh6 ▸ (Ext.refl _ _).push _ (Nat.le_refl _)
    have X6 : h6.at h.n = some (.cells [.lit (.int .i64 x.first), .lit (.int .i64 x.last), va, vb, .lit (.bool x.mayRw)] 65) := hh6 ▸ at_push_n _ _
    rw [← hh6]
    clear hh6
    have nx6 := at_lt X6
    have LX6 := ld_at (T := tabOf Try.prog NT0) X6
    have ee6 := e5.step e6
    have hq4 : i + 1 ≤ xs.length := by omega
    have hq5 : ((i : Nat) : Int) ≤ ((i + 1 : Nat) : Int) := by omega
    have hq6 : ((i + 1 : Nat) : Int) ≤ (xs.length : Int) := by omega
    have hsub : IsSl RIv (fun _ => True) h4 (subSl 5 i (i + 1) r) [x] := by
      have := hrx.sub (l := i) (r := i + 1) (by omega) hq4
      rw [List.take_add_one, hx, List.drop_append_of_le_length (by rw [List.length_take]; omega), List.drop_of_length_le (by rw [List.length_take]; omega)] at this
      exact this
    have cut1 : ∀ z, (priorF les xs)[k]? = some z → IsSl RIv (fun b => h3.n ≤ b) h4 (subSl 5 k (k + 1) q) [z] := fun z hz => by
      have hkl := (List.getElem?_eq_some_iff.1 hz).1
      have := hq.sub (l := k) (r := k + 1) (by omega) (by omega)
      rw [List.take_add_one, hz, List.drop_append_of_le_length (by rw [List.length_take]; omega), List.drop_of_length_le (by rw [List.length_take]; omega)] at this
      exact this
    have u1 := hsub.isSl
    by_cases hi1 : i + 1 < xs.length
    · have hst := prior_step les hx (show i < xs.length - 1 by omega)
      have hi2 : (((i + 1 : Nat) : Int) < (xs.length : Int)) = True := by simp only [eq_iff_iff, iff_true]; omega
      by_cases hask : askF les x = true
      · rw [if_pos hask] at hst
        have hpk : (priorF les xs)[k]? = some x := by
          have h1 : (xs.dropLast.take (i + 1)).filter (askF les) <+: priorF les xs := by
            unfold priorF
            exact (List.take_prefix _ _).filter _
          rw [hst] at h1
          obtain ⟨w, hw⟩ := h1
          rw [← hw, List.append_assoc, List.getElem?_append_right (by omega), hk, Nat.sub_self]
          rfl
        have hkl : k < (priorF les xs).length := (List.getElem?_eq_some_iff.1 hpk).1
        have hk2 : ((k : Int) < ((priorF les xs).length : Int)) = True := by simp only [eq_iff_iff, iff_true]; omega
        have hk4 : k + 1 ≤ (priorF les xs).length := by omega
        have hk5 : ((k : Nat) : Int) ≤ ((k + 1 : Nat) : Int) := by omega
        have hk6 : ((k + 1 : Nat) : Int) ≤ ((priorF les xs).length : Int) := by omega
        have hsq := cut1 x hpk
        have u2 := hsq.isSl
        rw [WB_regionD [0, 1, 2, 3, 4, 5, 6, 7, 8, 9, 10, 11, 12, 13, 14, 15, 16, 17, 18, 19, 20, 21, 22, 23] 123665189680020915514716378797599232338467671849636243787694440904276047565688189440098546047824095432172615269224500914790320040103398169112103210957454353900395451203452928 (by kernel_rfl)]
        repeat ((with_reducible refine WDM_cons ?_; simp only [dw1]; try simp only [dw2, Nat.reduceAdd, Nat.reduceMul, Nat.reduceShiftRight, Nat.reduceMod, Nat.reduceEqDiff]); simp only [core, Nat.reduceAdd, Nat.reduceSub, Nat.reduceMul, Nat.reduceLT, Nat.reduceEqDiff, reduceCtorEq, Nat.reduceLeDiff, Int.reduceLE, Int.reduceLT, Int.reduceToNat, cored, r1, r2, q1, q2, hn, g0, g2, g4, g7, g8, g9, g22, g23, g24, hlt, hc, hw, hwk, hk2, hk4, hk5, hk6, hq4, hq5, hq6, hcapr, hcapq, u1, u2])
        refine (same15_x (hsub.ext ee6 (Nat.le_refl _)) (hsq.ext ee6 (Nat.le_refl _)) (by show 1 < 2 ^ 62; decide) (fun z hz => by
          rw [List.mem_singleton] at hz; subst hz; have := hac z hxm; omega)).mono ?_
        rintro _ h7 ⟨e7, rfl⟩
        have X7 := (e7.2 _ nx6).trans X6
        have nx7 := at_lt X7
        have LX7 := ld_at (T := tabOf Try.prog NT0) X7
        have heq : eqIvs [x] [x] = true := eqIvs_iff.2 rfl
        rw [heq]
        have hm : x.mayRw = true := by unfold askF at hask; rw [Bool.and_eq_true] at hask; exact hask.1
        have hf : ¬ x.first < les := by unfold askF at hask; rw [Bool.and_eq_true, decide_eq_true_eq] at hask; omega
        have hac0 : x.acting ≠ [] := hne x hxm hm
        have hal : ((x.acting.length : Int) == 0) = false := by
          have := List.length_pos_iff.2 hac0
          rw [beq_eq_false_iff_ne]
          omega
        repeat ((with_reducible refine WDM_cons ?_; simp only [dw1]; try simp only [dw2, Nat.reduceAdd, Nat.reduceMul, Nat.reduceShiftRight, Nat.reduceMod, Nat.reduceEqDiff]); simp only [core, Nat.reduceAdd, Nat.reduceSub, Nat.reduceMul, Nat.reduceLT, Nat.reduceEqDiff, reduceCtorEq, Nat.reduceLeDiff, Int.reduceLE, Int.reduceLT, Int.reduceToNat, cored, r1, r2, q1, q2, hn, g0, g2, g4, g7, g8, g9, g22, g23, g24, hlt, hc, hw, hwk, hi2, LX7, nx7, a2, a3, hm, hf, hal, aundef])
        refine ih _ _ ⟨ee6.step e7, ?_⟩
        rw [hst, List.length_append, ← hk]
        simp only [core, Nat.reduceAdd, Nat.reduceSub, Nat.reduceMul, Nat.reduceLT, Nat.reduceEqDiff, reduceCtorEq, Nat.reduceLeDiff, Int.reduceLE, Int.reduceLT, Int.reduceToNat, hn, g0, g2, g4, g7, g8, g9, g22, g23, g24]
      · rw [if_neg hask, List.append_nil] at hst
        by_cases hkl : k < (priorF les xs).length
        · obtain ⟨z, hz⟩ : ∃ z, (priorF les xs)[k]? = some z := ⟨_, List.getElem?_eq_getElem hkl⟩
          have hzm := List.mem_of_getElem? hz
          have hza : askF les z = true := (List.mem_filter.1 hzm).2
          have hk2 : ((k : Int) < ((priorF les xs).length : Int)) = True := by simp only [eq_iff_iff, iff_true]; omega
          have hk4 : k + 1 ≤ (priorF les xs).length := by omega
          have hk5 : ((k : Nat) : Int) ≤ ((k + 1 : Nat) : Int) := by omega
          have hk6 : ((k + 1 : Nat) : Int) ≤ ((priorF les xs).length : Int) := by omega
          have hsq := cut1 z hz
          have u2 := hsq.isSl
          rw [WB_regionD [0, 1, 2, 3, 4, 5, 6, 7, 8, 9, 10, 11, 12, 13, 14, 15, 16, 17, 18, 19, 20, 21, 22, 23] 123665189680020915514716378797599232338467671849636243787694440904276047565688189440098546047824095432172615269224500914790320040103398169112103210957454353900395451203452928 (by kernel_rfl)]
          repeat ((with_reducible refine WDM_cons ?_; simp only [dw1]; try simp only [dw2, Nat.reduceAdd, Nat.reduceMul, Nat.reduceShiftRight, Nat.reduceMod, Nat.reduceEqDiff]); simp only [core, Nat.reduceAdd, Nat.reduceSub, Nat.reduceMul, Nat.reduceLT, Nat.reduceEqDiff, reduceCtorEq, Nat.reduceLeDiff, Int.reduceLE, Int.reduceLT, Int.reduceToNat, cored, r1, r2, q1, q2, hn, g0, g2, g4, g7, g8, g9, g22, g23, g24, hlt, hc, hw, hwk, hk2, hk4, hk5, hk6, hq4, hq5, hq6, hcapr, hcapq, u1, u2])
          refine (same15_x (hsub.ext ee6 (Nat.le_refl _)) (hsq.ext ee6 (Nat.le_refl _)) (by show 1 < 2 ^ 62; decide) (fun z hz => by
            rw [List.mem_singleton] at hz; subst hz; have := hac z hxm; omega)).mono ?_
          rintro _ h7 ⟨e7, rfl⟩
          have X7 := (e7.2 _ nx6).trans X6
          have nx7 := at_lt X7
          have LX7 := ld_at (T := tabOf Try.prog NT0) X7
          have heq : eqIvs [x] [z] = false := eqIvs_false fun hh => by cases hh; exact hask hza
          rw [heq]
          by_cases hm : x.mayRw = true
          · have hf : ¬ les ≤ x.first := fun hh => hask (by unfold askF; rw [hm, decide_eq_true hh]; rfl)
            repeat ((with_reducible refine WDM_cons ?_; simp only [dw1]; try simp only [dw2, Nat.reduceAdd, Nat.reduceMul, Nat.reduceShiftRight, Nat.reduceMod, Nat.reduceEqDiff]); simp only [core, Nat.reduceAdd, Nat.reduceSub, Nat.reduceMul, Nat.reduceLT, Nat.reduceEqDiff, reduceCtorEq, Nat.reduceLeDiff, Int.reduceLE, Int.reduceLT, Int.reduceToNat, cored, r1, r2, q1, q2, hn, g0, g2, g4, g7, g8, g9, g22, g23, g24, hlt, hc, hw, hwk, hi2, LX7, nx7, a2, a3, hm, hf, aundef])
            refine ih _ _ ⟨ee6.step e7, ?_⟩
            rw [hst, ← hk]
            simp only [core, Nat.reduceAdd, Nat.reduceSub, Nat.reduceMul, Nat.reduceLT, Nat.reduceEqDiff, reduceCtorEq, Nat.reduceLeDiff, Int.reduceLE, Int.reduceLT, Int.reduceToNat, hn, g0, g2, g4, g7, g8, g9, g22, g23, g24]
          · have hm : x.mayRw = false := by simpa using hm
            repeat ((with_reducible refine WDM_cons ?_; simp only [dw1]; try simp only [dw2, Nat.reduceAdd, Nat.reduceMul, Nat.reduceShiftRight, Nat.reduceMod, Nat.reduceEqDiff]); simp only [core, Nat.reduceAdd, Nat.reduceSub, Nat.reduceMul, Nat.reduceLT, Nat.reduceEqDiff, reduceCtorEq, Nat.reduceLeDiff, Int.reduceLE, Int.reduceLT, Int.reduceToNat, cored, r1, r2, q1, q2, hn, g0, g2, g4, g7, g8, g9, g22, g23, g24, hlt, hc, hw, hwk, hi2, LX7, nx7, a2, a3, hm, aundef])
            refine ih _ _ ⟨ee6.step e7, ?_⟩
            rw [hst, ← hk]
            simp only [core, Nat.reduceAdd, Nat.reduceSub, Nat.reduceMul, Nat.reduceLT, Nat.reduceEqDiff, reduceCtorEq, Nat.reduceLeDiff, Int.reduceLE, Int.reduceLT, Int.reduceToNat, hn, g0, g2, g4, g7, g8, g9, g22, g23, g24]
        · have hk2 : ((k : Int) < ((priorF les xs).length : Int)) = False := by simp only [eq_iff_iff, iff_false]; omega
          by_cases hm : x.mayRw = true
          · have hf : ¬ les ≤ x.first := fun hh => hask (by unfold askF; rw [hm, decide_eq_true hh]; rfl)
            rw [WB_regionD [0, 1, 2, 3, 4, 5, 6, 7, 8, 9, 10, 11, 12, 13, 14, 15, 16, 17, 18, 19, 20, 21, 22, 23] 123665189680020915514716378797599232338467671849636243787694440904276047565688189440098546047824095432172615269224500914790320040103398169112103210957454353900395451203452928 (by kernel_rfl)]
            repeat ((with_reducible refine WDM_cons ?_; simp only [dw1]; try simp only [dw2, Nat.reduceAdd, Nat.reduceMul, Nat.reduceShiftRight, Nat.reduceMod, Nat.reduceEqDiff]); simp only [core, Nat.reduceAdd, Nat.reduceSub, Nat.reduceMul, Nat.reduceLT, Nat.reduceEqDiff, reduceCtorEq, Nat.reduceLeDiff, Int.reduceLE, Int.reduceLT, Int.reduceToNat, cored, r1, r2, q1, q2, hn, g0, g2, g4, g7, g8, g9, g22, g23, g24, hlt, hc, hw, hwk, hk2, hi2, LX6, nx6, a2, a3, hm, hf, aundef])
            refine ih _ _ ⟨ee6, ?_⟩
            rw [hst, ← hk]
            simp only [core, Nat.reduceAdd, Nat.reduceSub, Nat.reduceMul, Nat.reduceLT, Nat.reduceEqDiff, reduceCtorEq, Nat.reduceLeDiff, Int.reduceLE, Int.reduceLT, Int.reduceToNat, hn, g0, g2, g4, g7, g8, g9, g22, g23, g24]
          · have hm : x.mayRw = false := by simpa using hm
            rw [WB_regionD [0, 1, 2, 3, 4, 5, 6, 7, 8, 9, 10, 11, 12, 13, 14, 15, 16, 17, 18, 19, 20, 21, 22, 23] 123665189680020915514716378797599232338467671849636243787694440904276047565688189440098546047824095432172615269224500914790320040103398169112103210957454353900395451203452928 (by kernel_rfl)]
            repeat ((with_reducible refine WDM_cons ?_; simp only [dw1]; try simp only [dw2, Nat.reduceAdd, Nat.reduceMul, Nat.reduceShiftRight, Nat.reduceMod, Nat.reduceEqDiff]); simp only [core, Nat.reduceAdd, Nat.reduceSub, Nat.reduceMul, Nat.reduceLT, Nat.reduceEqDiff, reduceCtorEq, Nat.reduceLeDiff, Int.reduceLE, Int.reduceLT, Int.reduceToNat, cored, r1, r2, q1, q2, hn, g0, g2, g4, g7, g8, g9, g22, g23, g24, hlt, hc, hw, hwk, hk2, hi2, LX6, nx6, a2, a3, hm, aundef])
            refine ih _ _ ⟨ee6, ?_⟩
            rw [hst, ← hk]
            simp only [core, Nat.reduceAdd, Nat.reduceSub, Nat.reduceMul, Nat.reduceLT, Nat.reduceEqDiff, reduceCtorEq, Nat.reduceLeDiff, Int.reduceLE, Int.reduceLT, Int.reduceToNat, hn, g0, g2, g4, g7, g8, g9, g22, g23, g24]
    · have hst := prior_stay (xs := xs) (i := i) les (show ¬ i < xs.length - 1 by omega)
      have hi2 : (((i + 1 : Nat) : Int) < (xs.length : Int)) = False := by simp only [eq_iff_iff, iff_false]; omega
      have hkp : k = (priorF les xs).length := by
        rw [hk, List.take_of_length_le (by rw [List.length_dropLast]; omega)]
        rfl
      have hk2 : ((k : Int) < ((priorF les xs).length : Int)) = False := by simp only [eq_iff_iff, iff_false]; omega
      rw [WB_regionD [0, 1, 2, 3, 4, 5, 6, 7, 8, 9, 10, 11, 12, 13, 14, 15, 16, 17, 18, 19, 20, 21, 22, 23] 123665189680020915514716378797599232338467671849636243787694440904276047565688189440098546047824095432172615269224500914790320040103398169112103210957454353900395451203452928 (by kernel_rfl)]
      repeat ((with_reducible refine WDM_cons ?_; simp only [dw1]; try simp only [dw2, Nat.reduceAdd, Nat.reduceMul, Nat.reduceShiftRight, Nat.reduceMod, Nat.reduceEqDiff]); simp only [core, Nat.reduceAdd, Nat.reduceSub, Nat.reduceMul, Nat.reduceLT, Nat.reduceEqDiff, reduceCtorEq, Nat.reduceLeDiff, Int.reduceLE, Int.reduceLT, Int.reduceToNat, cored, r1, r2, q1, q2, hn, g0, g2, g4, g7, g8, g9, g22, g23, g24, hlt, hc, hw, hwk, hk2, hi2, LX6, nx6, a2, a3, aundef])
      refine ih _ _ ⟨ee6, ?_⟩
      rw [hst, ← hk]
      simp only [core, Nat.reduceAdd, Nat.reduceSub, Nat.reduceMul, Nat.reduceLT, Nat.reduceEqDiff, reduceCtorEq, Nat.reduceLeDiff, Int.reduceLE, Int.reduceLT, Int.reduceToNat, hn, g0, g2, g4, g7, g8, g9, g22, g23, g24]
  · rintro t h hc ⟨e5, hn, g0, g2, g4, g7, g8, g9, g22, g23, g24⟩
    rw [List.take_of_length_le (by rw [List.length_dropLast]; omega)] at g9
    have g9 : t.get 9 = .lit (.int .i64 (priorF les xs).length) := g9
    have E5 := E4.step e5
    have P5 := (e5.2 _ lp4).trans P4
    have lp5 := at_lt P5
    have LP5 := ld_at (T := tabOf Try.prog NT0) P5
    unfold pgB at LP5
    simp only [core, Nat.reduceAdd, Nat.reduceSub, Nat.reduceMul, Nat.reduceLT, Nat.reduceEqDiff, reduceCtorEq, Nat.reduceLeDiff, Int.reduceLE, Int.reduceLT, Int.reduceToNat, s1, s2, r1, r2, q1, q2, hn, g0, g2, g4, g7, g8, g9, g22, g23, g24, hc]
    refine ⟨fun he => ?_, fun he => ?_⟩
    · have hms : ms = [] := List.eq_nil_of_length_eq_zero (by have := eq_of_beq he; omega)
      have hx0 : xs = [] := hnil hms
      have h00 : ((xs.length : Int) == 0) = true := by rw [hx0]; rfl
      have h01 : ((0 : Int) == 0) = true := rfl
      simp only [core, Nat.reduceAdd, Nat.reduceSub, Nat.reduceMul, Nat.reduceLT, Nat.reduceEqDiff, reduceCtorEq, Nat.reduceLeDiff, Int.reduceLE, Int.reduceLT, Int.reduceToNat, s1, s2, r1, r2, hn, g0, g2, g4, g7, g8, g9, g22, g23, g24, h00, LP5, lp5]
      refine (first_x pool seed (hv.ext E5 (Nat.le_refl _)) hl hok).mono ?_
      rintro _ h6 ⟨e6, rfl⟩
      rw [hfi, hx0]
      simp only [List.getLast?_nil]
      simp only [core, Nat.reduceAdd, Nat.reduceSub, Nat.reduceMul, Nat.reduceLT, Nat.reduceEqDiff, reduceCtorEq, Nat.reduceLeDiff, Int.reduceLE, Int.reduceLT, Int.reduceToNat, hn, g0, g2, g4, g7, g8, g9, g22, g23, g24, h01]
      refine lives15_x.mono ?_
      rintro _ h7 ⟨e7, rfl⟩
      simp only [core, Nat.reduceAdd, Nat.reduceSub, Nat.reduceMul, Nat.reduceLT, Nat.reduceEqDiff, reduceCtorEq, Nat.reduceLeDiff, Int.reduceLE, Int.reduceLT, Int.reduceToNat, hn, g0, g2, g4, g7, g8, g9, g22, g23, g24, h01]
    · have hms : ms ≠ [] := fun hh => by rw [hh] at he; simp at he
      have hx0 := hcons hms
      have hpos := List.length_pos_iff.2 hx0
      obtain ⟨y, hy⟩ : ∃ y, xs[xs.length - 1]? = some y := ⟨_, List.getElem?_eq_getElem (by omega)⟩
      have hlast : xs.getLast? = some y := by rw [List.getLast?_eq_getElem?]; exact hy
      have hlt0 : xs.length - 1 < xs.length := by omega
      have hw0 : IntKind.i64.wrap ((xs.length : Int) - 1) = ((xs.length - 1 : Nat) : Int) := (wrap_in (by omega) (by omega)).trans (by omega)
      have hp0 : ((0 : Int) < (xs.length : Int)) = True := by simp only [eq_iff_iff, iff_true]; omega
      have hkk : (((priorF les xs).length : Int) == ((priorF les xs).length : Int)) = true := beq_self_eq_true _
      obtain ⟨c, hc1, hld, hld0⟩ := hrx.at (T := tabOf Try.prog NT0) RIv_z hy
      obtain ⟨va, vb, rfl, -⟩ := RIv_is.1 hc1
      have ld5 := hrx.ldE (T := tabOf Try.prog NT0) hpos e5
      rw [WB_regionD [0, 1, 2, 3, 4, 5, 6, 7, 8, 9, 10, 11, 13, 14, 15, 16, 17, 18, 19, 12, 20, 21, 22, 23, 24, 25] 156764262437080502733330192216321228089542357956048611929128099730193192652938030378493969079322862262737956083635136893018786050046681165083359087286179028424472485414536214960563823202075893784331157504 (by kernel_rfl)]
      repeat ((with_reducible refine WDM_cons ?_; simp only [dw1]; try simp only [dw2, Nat.reduceAdd, Nat.reduceMul, Nat.reduceShiftRight, Nat.reduceMod, Nat.reduceEqDiff]); simp only [core, Nat.reduceAdd, Nat.reduceSub, Nat.reduceMul, Nat.reduceLT, Nat.reduceEqDiff, reduceCtorEq, Nat.reduceLeDiff, Int.reduceLE, Int.reduceLT, Int.reduceToNat, cored, s1, s2, r1, r2, q1, q2, hn, g0, g2, g4, g7, g8, g9, g22, g23, g24, hp0, hkk, LP5, lp5, ld5, hld, hld0, hlt0, hw0])
      refine (first_x pool seed (hv.ext E5 (Nat.le_refl _)) hl hok).mono ?_
      rintro _ h6 ⟨e6, rfl⟩
      rw [hfi, hlast]
      have ld6 := hrx.ldE (T := tabOf Try.prog NT0) hpos (e5.step e6)
      have hyy : (y.first == y.first) = true := beq_self_eq_true _
      repeat ((with_reducible refine WDM_cons ?_; simp only [dw1]; try simp only [dw2, Nat.reduceAdd, Nat.reduceMul, Nat.reduceShiftRight, Nat.reduceMod, Nat.reduceEqDiff]); simp only [core, Nat.reduceAdd, Nat.reduceSub, Nat.reduceMul, Nat.reduceLT, Nat.reduceEqDiff, reduceCtorEq, Nat.reduceLeDiff, Int.reduceLE, Int.reduceLT, Int.reduceToNat, cored, s1, s2, r1, r2, q1, q2, hn, g0, g2, g4, g7, g8, g9, g22, g23, g24, ld6, hld, hld0, hyy])
      refine lives15_x.mono ?_
      rintro _ h7 ⟨e7, rfl⟩
      repeat ((with_reducible refine WDM_cons ?_; simp only [dw1]; try simp only [dw2, Nat.reduceAdd, Nat.reduceMul, Nat.reduceShiftRight, Nat.reduceMod, Nat.reduceEqDiff]); simp only [core, Nat.reduceAdd, Nat.reduceSub, Nat.reduceMul, Nat.reduceLT, Nat.reduceEqDiff, reduceCtorEq, Nat.reduceLeDiff, Int.reduceLE, Int.reduceLT, Int.reduceToNat, cored, hn, g0, g2, g4, g7, g8, g9, g22, g23, g24])
  · simp only [core, Nat.reduceAdd, Nat.reduceSub, Nat.reduceMul, Nat.reduceLT, Nat.reduceEqDiff, reduceCtorEq, Nat.reduceLeDiff, Int.reduceLE, Int.reduceLT, Int.reduceToNat]
    refine ⟨Ext.refl _ _, ?_⟩
    (repeat' apply And.intro) <;> first | rfl | trivial
end Go.Proofs.Ytkgbeihcepociaa.Ex
namespace Go.Proofs.Ytkgbeihcepociaa
open Go.RowKit Go.ChangeShapes Go.WideShapes Go.ChangeAt
set_option maxRecDepth 100000 in
theorem intervalPrior_walk {H : Type} {enc : TypeId × Value → H} {W : World} {base : Nat} {v0 v1 v2 : Value} {d0 d1 d2 : DataW H} {p0 p1 p2 : List MemPlace}
    (k0 : Value.okWide Try.prog W .any base 33 v0) (h0 : DataW.Trod enc Try.prog W 0 (fun _ => true) true 33 v0 d0 p0)
    (k1 : Value.okWide Try.prog W .any base 56 v1) (h1 : DataW.Trod enc Try.prog W 0 (fun _ => true) true 56 v1 d1 p1)
    (k2 : Value.okWide Try.prog W .any base 3 v2) (h2 : DataW.Trod enc Try.prog W 0 (fun _ => true) true 3 v2 d2 p2)
    {ts : List TypeId} {ds : List (DataW H)} (hsz : (DataW.weightsEach Try.prog ([33, 56, 3] ++ ts) ([d0, d1, d2] ++ ds)).all (· ≤ reachBytes) = true) :
    Calls Try.prog 8 #[v0, v1, v2] W fun e w' => e = .returned (.bool true) ∧ Below W.heap.size W w' := by
  obtain ⟨v, ms, r0, i0, ok0⟩ := Ex.open_sl Ex.opensA_Mps Try.underlying33 k0 h0 (weights_le hsz (j := 0) rfl rfl)
  obtain ⟨c1, g, r1, i1, -⟩ := Ex.open_agg Ex.opensA_Pg Try.underlying56 rfl k1 h1 (weights_le hsz (j := 1) rfl rfl)
  obtain ⟨n, rfl, rfl, rfl, wf⟩ := open_int Try.underlying3 k2 h2
  obtain ⟨rfl, -⟩ := Ex.RPg_is.1 i1
  exact Ex.law_join (Ex.rels_cons r0 (Ex.rels_cons r1 (Ex.rels_cons (Ex.rel_lit rfl) Ex.rels_nil))) (Ex.intervalPrior_m g.pool g.seed n i0 ok0.1 ok0.2)
end Go.Proofs.Ytkgbeihcepociaa
end
