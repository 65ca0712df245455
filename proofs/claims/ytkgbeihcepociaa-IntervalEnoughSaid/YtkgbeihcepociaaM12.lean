/- Part 12 of the proof: Ivc, Ivt, Ivu, Ivv, Ivx, Ivy, Ivl, Iv2, Iv3, Iv4, Jn, Ivo, IntervalEnoughWalk. -/
import Derived.Test.YtkgbeihcepociaaM11
section

set_option linter.unusedSimpArgs false
set_option linter.unusedVariables false
set_option maxRecDepth 10000
set_option maxHeartbeats 4000000
namespace Go.Proofs.Ytkgbeihcepociaa.Ex
open Go
def ivV (x : IvD) (va vb : AV) : AV := .agg [.lit (.int .i64 x.first), .lit (.int .i64 x.last), va, vb, .lit (.bool x.mayRw)]
theorem each1_x {F : Nat → Prop} {H : AH} {s : AV} {xs : List IvD} {p l : Nat} (hp : H.at p = some (.cells [s] 59)) (hv : IsSl RIv F H s xs) (hl : xs.length * 72 ≤ 140737488355328) (hs : ∀ x ∈ xs, x.acting.length * 8 ≤ 140737488355328 ∧ x.boots.length * 8 ≤ 140737488355328)
    (J : Nat → AH → Prop) (R : AH → Prop) (hJ : ∀ i h, J i h → Ext H.n H h) (hE : ∀ i h h', J i h → Ext h.n h h' → J i h')
    (hr : ∀ i x h0 h va vb, xs[i]? = some x → J i h0 → Ext h0.n h0 h → IsSl RInt (fun b => h0.n ≤ b) h va x.acting → IsSl RInt (fun b => h0.n ≤ b) h vb x.boots → I64 x.first → I64 x.last → WR Try.prog (tabOf Try.prog NT0) S0 l [ivV x va vb] h fun r h2 => ∃ b, r = .lit (.bool b) ∧ (b = true → J (i + 1) h2) ∧ (b = false → R h2))
    {h : AH} (h0 : J 0 h) : WC Try.prog (tabOf Try.prog NT0) S0 87 [.fn (.yield l) [] [], .ptr p 0] h fun _ h2 => J xs.length h2 ∨ R h2 := by
  refine WC_fn Try.func87 rfl rfl ?_
  have s1 := hv.isSl
  have s2 := hv.lenD
  have E0 := hJ _ _ h0
  have P0 := (E0.2 _ (at_lt hp)).trans hp
  have LP0 := ld_at (T := tabOf Try.prog NT0) P0
  have lp0 := at_lt P0
  simp only [core, Nat.reduceAdd, Nat.reduceSub, Nat.reduceMul, Nat.reduceLT, Nat.reduceEqDiff, reduceCtorEq, Nat.reduceLeDiff, Int.reduceLE, Int.reduceLT, Int.reduceToNat, Try.ntmps87, s1, s2, LP0, lp0]
  refine WB_for xs.length (fun i t h => J i h ∧ t.n = 24 ∧ t.get 0 = .fn (.yield l) [] [] ∧ t.get 1 = .ptr p 0 ∧ t.get 5 = s ∧ t.get 6 = .lit (.int .i64 xs.length) ∧ t.get 7 = .lit (.int .i64 i)) ?_ ?_ _ _ ?_
  · rintro i t h hlt hc ⟨hj, hn, g0, g1, g5, g6, g7⟩ ih
    have E := hJ _ _ hj
    obtain ⟨x, hx⟩ : ∃ x, xs[i]? = some x := ⟨_, List.getElem?_eq_getElem hlt⟩
    have hw := wrap_succ hlt (by omega)
    obtain ⟨c, hc1, hld, hld0⟩ := hv.atE (T := tabOf Try.prog NT0) E RIv_z hx
    obtain ⟨va, vb, rfl, ha, hb, f1, f2⟩ := RIv_is.1 hc1
    have a1 := ha.one
    have b1 := hb.one
    have a2 := ha.isSl
    have b2 := hb.isSl
    obtain ⟨hsa, hsb⟩ := hs x (List.mem_of_getElem? hx)
    simp only [core, Nat.reduceAdd, Nat.reduceSub, Nat.reduceMul, Nat.reduceLT, Nat.reduceEqDiff, reduceCtorEq, Nat.reduceLeDiff, Int.reduceLE, Int.reduceLT, Int.reduceToNat, s1, s2, hn, g0, g1, g5, g6, g7, hlt, hc, hw, hld, hld0, a1, b1]
    obtain ⟨h1, hh1⟩ : ∃ h1, h1 = h.push (.cells [.lit (.int .i64 x.first), .lit (.int .i64 x.last), va, vb, .lit (.bool x.mayRw)] 65) := ⟨_, rfl⟩
    have e1 : Ext h.n h h1 := hh1 ▸ (Ext.refl _ _).push _ (Nat.le_refl _)
    have X1 : h1.at h.n = some (.cells [.lit (.int .i64 x.first), .lit (.int .i64 x.last), va, vb, .lit (.bool x.mayRw)] 65) := hh1 ▸ at_push_n _ _
    have nx1 := at_lt X1
    have LX1 := ld_at (T := tabOf Try.prog NT0) X1
    rw [← hh1]
    clear hh1
    rw [WB_regionD [0, 1, 3, 4, 2, 6, 5, 7, 8, 9] 632895786129742360360258634752 (by kernel_rfl)]
    repeat ((with_reducible refine WDM_cons ?_; simp only [dw1]; try simp only [dw2, Nat.reduceAdd, Nat.reduceMul, Nat.reduceShiftRight, Nat.reduceMod, Nat.reduceEqDiff]); simp only [core, Nat.reduceAdd, Nat.reduceSub, Nat.reduceMul, Nat.reduceLT, Nat.reduceEqDiff, reduceCtorEq, Nat.reduceLeDiff, Int.reduceLE, Int.reduceLT, Int.reduceToNat, cored, hn, g0, g1, g5, g6, g7, LX1, nx1, a1, b1, a2, b2])
    refine (clone_x (ha.ext (E.step e1) (Nat.le_refl _)) hsa).mono ?_
    rintro ra h2 ⟨e2, ra1, -⟩
    have X2 := (e2.2 _ nx1).trans X1
    have nx2 := at_lt X2
    have LX2 := ld_at (T := tabOf Try.prog NT0) X2
    have ra2 := ra1.isSl
    have ra3 := ra1.one
    repeat ((with_reducible refine WDM_cons ?_; simp only [dw1]; try simp only [dw2, Nat.reduceAdd, Nat.reduceMul, Nat.reduceShiftRight, Nat.reduceMod, Nat.reduceEqDiff]); simp only [core, Nat.reduceAdd, Nat.reduceSub, Nat.reduceMul, Nat.reduceLT, Nat.reduceEqDiff, reduceCtorEq, Nat.reduceLeDiff, Int.reduceLE, Int.reduceLT, Int.reduceToNat, cored, hn, g0, g1, g5, g6, g7, LX2, nx2, a1, b1, a2, b2, ra2, ra3])
    refine (clone_x (hb.ext ((E.step e1).step e2) (Nat.le_refl _)) hsb).mono ?_
    rintro rb h3 ⟨e3, rb1, -⟩
    have X3 := (e3.2 _ nx2).trans X2
    have nx3 := at_lt X3
    have LX3 := ld_at (T := tabOf Try.prog NT0) X3
    have rb2 := rb1.isSl
    have rb3 := rb1.one
    have eh3 : Ext h.n h h3 := (e1.step e2).step e3
    repeat ((with_reducible refine WDM_cons ?_; simp only [dw1]; try simp only [dw2, Nat.reduceAdd, Nat.reduceMul, Nat.reduceShiftRight, Nat.reduceMod, Nat.reduceEqDiff]); simp only [core, Nat.reduceAdd, Nat.reduceSub, Nat.reduceMul, Nat.reduceLT, Nat.reduceEqDiff, reduceCtorEq, Nat.reduceLeDiff, Int.reduceLE, Int.reduceLT, Int.reduceToNat, cored, hn, g0, g1, g5, g6, g7, LX3, X3, nx3, a1, b1, a2, b2, ra2, ra3, rb2, rb3, WOp_round, call_yield])
    obtain ⟨h4, hh4⟩ : ∃ h4, h4 = (h3.put h.n (.cells [.lit (.int .i64 x.first), .lit (.int .i64 x.last), ra, vb, .lit (.bool x.mayRw)] 65)).put h.n (.cells [.lit (.int .i64 x.first), .lit (.int .i64 x.last), ra, rb, .lit (.bool x.mayRw)] 65) := ⟨_, rfl⟩
    have e4 : Ext h.n h h4 := hh4 ▸ (eh3.put _ (Nat.le_refl _)).put _ (Nat.le_refl _)
    have q4 : ∀ b, b ≠ h.n → h4.at b = h3.at b := fun b hb => hh4 ▸ (at_put_ne _ (fun h => hb h.symm)).trans (at_put_ne _ (fun h => hb h.symm))
    rw [← hh4]
    clear hh4
    have q1 := e1.1
    have q2 := e2.1
    refine (hr i x h h4 ra rb hx hj e4 (ra1.lift fun b hb hlt => ⟨(q4 b (by omega)).trans (e3.2 b hlt), by omega⟩) (rb1.lift fun b hb _ => ⟨q4 b (by omega), by omega⟩) f1 f2).mono ?_
    rintro _ h5 ⟨b, rfl, k1, k2⟩
    cases b with
    | true =>
      simp only [core, Nat.reduceAdd, Nat.reduceSub, Nat.reduceMul, Nat.reduceLT, Nat.reduceEqDiff, reduceCtorEq, Nat.reduceLeDiff, Int.reduceLE, Int.reduceLT, Int.reduceToNat, hn, g0, g1, g5, g6, g7, hw]
      exact ih _ _ ⟨k1 rfl, by simp only [core, Nat.reduceAdd, Nat.reduceSub, Nat.reduceMul, Nat.reduceLT, Nat.reduceEqDiff, reduceCtorEq, Nat.reduceLeDiff, Int.reduceLE, Int.reduceLT, Int.reduceToNat, hn, g0, g1, g5, g6, g7]⟩
    | false =>
      simp only [core, Nat.reduceAdd, Nat.reduceSub, Nat.reduceMul, Nat.reduceLT, Nat.reduceEqDiff, reduceCtorEq, Nat.reduceLeDiff, Int.reduceLE, Int.reduceLT, Int.reduceToNat, hn, g0, g1, g5, g6, g7]
      exact ⟨by simp, .inr (k2 rfl)⟩
  · rintro t h hc ⟨hj, hn, g0, g1, g5, g6, g7⟩
    simp only [core, Nat.reduceAdd, Nat.reduceSub, Nat.reduceMul, Nat.reduceLT, Nat.reduceEqDiff, reduceCtorEq, Nat.reduceLeDiff, Int.reduceLE, Int.reduceLT, Int.reduceToNat, s1, s2, hn, g0, g1, g5, g6, g7, hc]
    exact ⟨by simp, .inl hj⟩
  · simp only [core, Nat.reduceAdd, Nat.reduceSub, Nat.reduceMul, Nat.reduceLT, Nat.reduceEqDiff, reduceCtorEq, Nat.reduceLeDiff, Int.reduceLE, Int.reduceLT, Int.reduceToNat]
    refine ⟨h0, ?_⟩
    (repeat' apply And.intro) <;> first | rfl | trivial
theorem ivs_ok {pool seed : Int} {ms : List MapD} : ∀ x ∈ ivsF pool seed ms, x.acting.length ≤ 8 ∧ x.boots.length ≤ 8 := fun x hx => by
  unfold ivsF at hx
  obtain ⟨r, -, rfl⟩ := List.mem_map.1 hx
  unfold ivOf bootF
  simp only [List.length_map]
  exact ⟨actF_len, actF_len⟩
/-- All of them in a slice. -/
theorem seq_x {F : Nat → Prop} {H : AH} {s : AV} {xs : List IvD} {p : Nat} (hp : H.at p = some (.cells [s] 59)) (hv : IsSl RIv F H s xs) (hl : xs.length * 72 ≤ 140737488355328) (hs : ∀ x ∈ xs, x.acting.length * 8 ≤ 140737488355328 ∧ x.boots.length * 8 ≤ 140737488355328) :
    WC Try.prog (tabOf Try.prog NT0) S0 124 [.lit (.slice none 0 0), .fn (.func 87) [] [.ptr p 0]] H fun r h' => Ext H.n H h' ∧ OwnL RIv (fun b => H.n + 3 ≤ b) (H.n + 3) h' r 65 xs := by
  refine WC_fn Try.func124 rfl rfl ?_
  simp only [core, Nat.reduceAdd, Nat.reduceSub, Nat.reduceMul, Nat.reduceLT, Nat.reduceEqDiff, reduceCtorEq, Nat.reduceLeDiff, Int.reduceLE, Int.reduceLT, Int.reduceToNat, Try.ntmps124]
  generalize htt : TM.set _ 6 _ = tt
  have hn : tt.n = 13 := by rw [← htt]; simp only [core, Nat.reduceAdd, Nat.reduceSub, Nat.reduceMul, Nat.reduceLT, Nat.reduceEqDiff, reduceCtorEq, Nat.reduceLeDiff, Int.reduceLE, Int.reduceLT, Int.reduceToNat]
  have g2 : tt.get 2 = .ptr H.n 0 := by rw [← htt]; simp only [core, Nat.reduceAdd, Nat.reduceSub, Nat.reduceMul, Nat.reduceLT, Nat.reduceEqDiff, reduceCtorEq, Nat.reduceLeDiff, Int.reduceLE, Int.reduceLT, Int.reduceToNat]
  have g6 : tt.get 6 = .fn (.func 87) [] [.ptr p 0] := by rw [← htt]; simp only [core, Nat.reduceAdd, Nat.reduceSub, Nat.reduceMul, Nat.reduceLT, Nat.reduceEqDiff, reduceCtorEq, Nat.reduceLeDiff, Int.reduceLE, Int.reduceLT, Int.reduceToNat]
  clear htt
  generalize hh2 : AH.push H _ = h2
  have E2 : Ext H.n H h2 := hh2 ▸ (Ext.refl _ _).push _ (Nat.le_refl _)
  have n2 : h2.n = H.n + 1 := by rw [← hh2, n_push]
  have F2 : h2.at H.n = some (.cells [.lit (.slice none 0 0)] 59) := hh2 ▸ at_push_n _ _
  clear hh2
  refine WB_rangeW rfl (fv := .fn (.func 87) [] [.ptr p 0]) (by simp only [core, Nat.reduceAdd, Nat.reduceSub, Nat.reduceMul, Nat.reduceLT, Nat.reduceEqDiff, reduceCtorEq, Nat.reduceLeDiff, Int.reduceLE, Int.reduceLT, Int.reduceToNat, g6]) rfl fun LO hLO => ?_
  refine (each1_x (l := h2.n + 1) hp hv hl hs
    (fun i h => Ext H.n H h ∧ (∃ s, h.at H.n = some (.cells [s] 59) ∧ OwnL RIv (fun b => H.n + 3 ≤ b) (H.n + 3) h s 65 (xs.take i)) ∧ h.at (H.n + 2) = some (.loop LO) ∧ h.at (H.n + 1) = some .defd)
    (fun _ => False) (fun i h j => j.1) (fun i h h' ⟨j1, ⟨s, j5, j6⟩, j7, j8⟩ e => ⟨j1.step e, ⟨s, (e.2 _ (at_lt j5)).trans j5, j6.ext e (Nat.le_refl _)⟩, (e.2 _ (at_lt j7)).trans j7, (e.2 _ (at_lt j8)).trans j8⟩) ?_ ?_).mono ?_
  · rintro i x h0 h va vb hx ⟨j1, ⟨s, j5, j6⟩, j7, j8⟩ e0 ha hbb f1 f2
    have a1 := ha.one
    have b1 := hbb.one
    have hlt : i < xs.length := (List.getElem?_eq_some_iff.1 hx).1
    have htk : xs.take (i + 1) = xs.take i ++ [x] := by rw [List.take_add_one, hx]; rfl
    have k7 := (e0.2 _ (at_lt j7)).trans j7
    rw [n2]
    refine WR_round hLO k7 rfl ?_
    simp only [core, Nat.reduceAdd, Nat.reduceSub, Nat.reduceMul, Nat.reduceLT, Nat.reduceEqDiff, reduceCtorEq, Nat.reduceLeDiff, Int.reduceLE, Int.reduceLT, Int.reduceToNat, sp_cons, sp_nil, ivV, g2, hn, a1, b1]
    obtain ⟨h1, hh1⟩ : ∃ h1, h1 = h.push (.cells [.lit (.int .i64 x.first), .lit (.int .i64 x.last), va, vb, .lit (.bool x.mayRw)] 65) := ⟨_, rfl⟩
    have e1 : Ext h.n h h1 := hh1 ▸ (Ext.refl _ _).push _ (Nat.le_refl _)
    have X1 : h1.at h.n = some (.cells [.lit (.int .i64 x.first), .lit (.int .i64 x.last), va, vb, .lit (.bool x.mayRw)] 65) := hh1 ▸ at_push_n _ _
    rw [← hh1]
    clear hh1
    have l7 := (e1.2 _ (at_lt k7)).trans k7
    refine WB_beginL hLO rfl l7 ?_
    have EX := j1.step (e0.step e1)
    have ee := e0.step e1
    have hnh := at_lt j7
    have hne := e0.1
    have T5 := (ee.2 _ (at_lt j5)).trans j5
    have T6 := j6.ext ee (Nat.le_refl _)
    have T8 := (ee.2 _ (at_lt j8)).trans j8
    obtain ⟨hb, hhb⟩ : ∃ hb, hb = h1.put (H.n + 2) (.loop (busyL LO)) := ⟨_, rfl⟩
    have EB : Ext H.n H hb := hhb ▸ EX.put _ (by omega)
    have qb : ∀ b, b ≠ H.n + 2 → hb.at b = h1.at b := fun b hb => hhb ▸ at_put_ne _ (fun h => hb h.symm)
    have nb : hb.n = h1.n := by rw [hhb, n_put]
    have b7 : hb.at (H.n + 2) = some (.loop (busyL LO)) := hhb ▸ at_put_same _ (at_lt l7)
    rw [← hhb]
    clear hhb
    have b5 := (qb H.n (by omega)).trans T5
    have b8 := (qb (H.n + 1) (by omega)).trans T8
    have b6 : OwnL RIv (fun b => H.n + 3 ≤ b) (H.n + 3) hb s 65 (xs.take i) := T6.below (fun _ h => h) (fun b hb => qb _ (by omega))
    have bX := (qb h.n (by omega)).trans X1
    have lb5 := at_lt b5
    have LB5 := ld_at (T := tabOf Try.prog NT0) b5
    have lbX := at_lt bX
    have LBX := ld_at (T := tabOf Try.prog NT0) bX
    have so := b6.isSl
    have so1 := b6.one
    simp only [core, Nat.reduceAdd, Nat.reduceSub, Nat.reduceMul, Nat.reduceLT, Nat.reduceEqDiff, reduceCtorEq, Nat.reduceLeDiff, Int.reduceLE, Int.reduceLT, Int.reduceToNat, g2, hn, LB5, lb5, LBX, lbX, so, so1, a1, b1]
    obtain ⟨h8, hh8⟩ : ∃ h8, h8 = hb.push (.cells [.lit (.int .i64 x.first), .lit (.int .i64 x.last), va, vb, .lit (.bool x.mayRw)] 65) := ⟨_, rfl⟩
    have e8 : Ext hb.n hb h8 := hh8 ▸ (Ext.refl _ _).push _ (Nat.le_refl _)
    have X8 : h8.at hb.n = some (.cells [.lit (.int .i64 x.first), .lit (.int .i64 x.last), va, vb, .lit (.bool x.mayRw)] 65) := hh8 ▸ at_push_n _ _
    rw [← hh8]
    clear hh8
    have hil : (xs.take i).length + 1 ≤ xs.length := by rw [List.length_take]; omega
    have hap : ∀ b, h0.n ≤ b → Apart s b := fun b hb => j6.apart hb
    have he1 := e1.1
    refine WOp_app ((b6.ext e8 (Nat.le_refl _)).snoc (by kernel_rfl) (by kernel_rfl) (by kernel_rfl) (zv := .agg [.lit (.int .i64 0), .lit (.int .i64 0), .lit (.slice none 0 0), .lit (.slice none 0 0), .lit (.bool false)]) (by kernel_rfl) (by' := 72) (by kernel_rfl) rfl (by decide) (by decide) X8
      (y := x) (RIv_is.2 ⟨va, vb, rfl, ?_, ?_, f1, f2⟩) (by omega) (by omega) (by have := e8.1; omega)) ?_
    · exact ha.lift fun b hb hlt => ⟨(e8.2 b (by omega)).trans ((qb b (by omega)).trans (e1.2 b hlt)), by omega, hap b hb⟩
    · exact hbb.lift fun b hb hlt => ⟨(e8.2 b (by omega)).trans ((qb b (by omega)).trans (e1.2 b hlt)), by omega, hap b hb⟩
    rintro s9 h9 ⟨o9, e9, k9⟩
    have EE : Ext (H.n + 3) hb h9 := (e8.mono (by omega)).trans e9
    have S9 := (EE.2 _ (by omega)).trans b5
    have ls9 := at_lt S9
    have o91 := o9.one
    simp only [core, Nat.reduceAdd, Nat.reduceSub, Nat.reduceMul, Nat.reduceLT, Nat.reduceEqDiff, reduceCtorEq, Nat.reduceLeDiff, Int.reduceLE, Int.reduceLT, Int.reduceToNat, g2, hn, S9, ls9, o91]
    refine ⟨busyL LO, ?_, true, rfl, fun _ => ⟨?_, ⟨s9, ?_, ?_⟩, ?_, ?_⟩, fun h => by cases h⟩
    · exact (at_put_ne _ (by omega)).trans ((EE.2 _ (by omega)).trans b7)
    · exact ((EB.trans (EE.mono (by omega))).put _ (by omega)).put _ (by omega)
    · exact (at_put_ne _ (by omega)).trans (at_put_same _ ls9)
    · rw [htk]
      exact o9.below (fun _ h => h) (fun b hb => (at_put_ne _ (by omega)).trans (at_put_ne _ (by omega)))
    · exact (at_put_same _ (by rw [n_put]; exact at_lt ((EE.2 _ (by omega)).trans b7))).trans (by rw [hLO]; rfl)
    · exact (at_put_ne _ (by omega)).trans ((at_put_ne _ (by omega)).trans ((EE.2 _ (by omega)).trans b8))
  · have up : ∀ b x, h2.at b = some x → ((h2.push .defd).push (.loop LO)).at b = some x := fun b x hx => by
      have := at_lt hx
      exact (at_push_lt _ (by rw [n_push]; omega)).trans ((at_push_lt _ this).trans hx)
    refine ⟨(E2.push _ E2.1).push _ (by rw [n_push]; have := E2.1; omega), ⟨_, up _ _ F2, OwnL.nil⟩, ?_, ?_⟩
    · have := at_push_n (h2.push .defd) (.loop LO)
      rw [n_push, n2] at this
      exact this
    · have := at_push_n h2 .defd
      rw [n2] at this
      exact (at_push_lt _ (by rw [n_push]; omega)).trans this
  · rintro _ h (⟨j1, ⟨s, j5, j6⟩, j7, j8⟩ | hf)
    · refine ⟨LO, by rw [n2]; exact j7, by rw [hLO]; simp, ?_⟩
      obtain ⟨hb, hhb⟩ : ∃ hb, hb = h.put (h2.n + 1) (.loop { LO with state := .exhausted }) := ⟨_, rfl⟩
      have EB : Ext H.n H hb := hhb ▸ j1.put _ (by omega)
      have b5 : hb.at H.n = some (.cells [s] 59) := hhb ▸ (at_put_ne _ (by omega)).trans j5
      have b6 : OwnL RIv (fun b => H.n + 3 ≤ b) (H.n + 3) hb s 65 (xs.take xs.length) := hhb ▸ j6.below (fun _ h => h) (fun b hb => at_put_ne _ (by omega))
      have b8 : hb.at h2.n = some .defd := hhb ▸ (at_put_ne _ (by omega)).trans (by rw [n2]; exact j8)
      rw [← hhb]
      clear hhb
      have lb5 := at_lt b5
      have LB5 := ld_at (T := tabOf Try.prog NT0) b5
      have so := b6.isSl
      rw [hLO]
      simp only [core, Nat.reduceAdd, Nat.reduceSub, Nat.reduceMul, Nat.reduceLT, Nat.reduceEqDiff, reduceCtorEq, Nat.reduceLeDiff, Int.reduceLE, Int.reduceLT, Int.reduceToNat, Option.map_none, Option.toList_none, List.nil_append, g2, hn, LB5, lb5, so]
      refine ⟨b8, EB.put _ (by omega), ?_⟩
      rw [List.take_length] at b6
      exact b6.below (fun _ h => h) (fun b hb => at_put_ne _ (by omega))
    · exact hf.elim
theorem all_x {F : Nat → Prop} {H : AH} {v : AV} {ms : List MapD} (pool seed : Int) (hv : IsSl RMp F H v ms) (hl : Sm 88 ms) (hok : ∀ m ∈ ms, OkMp m) :
    WC Try.prog (tabOf Try.prog NT0) S0 32 [v, pgV pool seed] H fun r h' => Ext H.n H h' ∧ ∃ n0, H.n ≤ n0 ∧ OwnL RIv (fun b => n0 ≤ b) n0 h' r 65 (ivsF pool seed ms) := by
  refine WC_fn Try.func32 rfl rfl ?_
  have s1 := hv.isSl
  have o1 := hv.one
  simp only [core, Nat.reduceAdd, Nat.reduceSub, Nat.reduceMul, Nat.reduceLT, Nat.reduceEqDiff, reduceCtorEq, Nat.reduceLeDiff, Int.reduceLE, Int.reduceLT, Int.reduceToNat, Try.ntmps32, pgV, s1]
  obtain ⟨h1, hh1⟩ : ∃ h1, h1 = H.push (pgB pool seed) := ⟨_, rfl⟩
  have e1 : Ext H.n H h1 := hh1 ▸ (Ext.refl _ _).push _ (Nat.le_refl _)
  unfold pgB at hh1
  rw [← hh1]
  clear hh1
  refine (each_x pool seed (hv.ext e1 (Nat.le_refl _)) hl hok).mono ?_
  rintro _ h2 ⟨rfl, e2, s, hs, hiv⟩
  have hlen : (ivsF pool seed ms).length * 72 ≤ 140737488355328 := by
    have := ivsF_len (pool := pool) (seed := seed) (ms := ms)
    unfold Sm at hl
    omega
  simp only [core, Nat.reduceAdd, Nat.reduceSub, Nat.reduceMul, Nat.reduceLT, Nat.reduceEqDiff, reduceCtorEq, Nat.reduceLeDiff, Int.reduceLE, Int.reduceLT, Int.reduceToNat]
  have hcol : WC Try.prog (tabOf Try.prog NT0) S0 82 [.fn (.func 87) [] [.ptr (h1.n + 1) 0]] h2 fun r h' => Ext h2.n h2 h' ∧ OwnL RIv (fun b => h2.n + 3 ≤ b) (h2.n + 3) h' r 65 (ivsF pool seed ms) := by
    refine WC_fn Try.func82 rfl rfl ?_
    simp only [core, Nat.reduceAdd, Nat.reduceSub, Nat.reduceMul, Nat.reduceLT, Nat.reduceEqDiff, reduceCtorEq, Nat.reduceLeDiff, Int.reduceLE, Int.reduceLT, Int.reduceToNat, Try.ntmps82]
    refine (seq_x hs hiv hlen (fun x hx => by have := ivs_ok x hx; omega)).mono ?_
    rintro r h3 ⟨e3, o3⟩
    have r1 := o3.isSl
    simp only [core, Nat.reduceAdd, Nat.reduceSub, Nat.reduceMul, Nat.reduceLT, Nat.reduceEqDiff, reduceCtorEq, Nat.reduceLeDiff, Int.reduceLE, Int.reduceLT, Int.reduceToNat, r1]
    exact ⟨e3, o3⟩
  refine hcol.mono ?_
  rintro r h3 ⟨e3, o3⟩
  have r1 := o3.isSl
  simp only [core, Nat.reduceAdd, Nat.reduceSub, Nat.reduceMul, Nat.reduceLT, Nat.reduceEqDiff, reduceCtorEq, Nat.reduceLeDiff, Int.reduceLE, Int.reduceLT, Int.reduceToNat, r1]
  have q1 := e1.1
  have q2 := e2.1
  exact ⟨(e1.step e2).step e3, h2.n + 3, by omega, o3⟩
end Go.Proofs.Ytkgbeihcepociaa.Ex
end

section

set_option linter.unusedSimpArgs false
set_option linter.unusedVariables false
set_option maxRecDepth 10000
set_option maxHeartbeats 4000000
namespace Go.Proofs.Ytkgbeihcepociaa.Ex
open Go
end Go.Proofs.Ytkgbeihcepociaa.Ex
end

section

set_option linter.unusedSimpArgs false
set_option linter.unusedVariables false
set_option maxRecDepth 10000
set_option maxHeartbeats 4000000
namespace Go.Proofs.Ytkgbeihcepociaa.Ex
open Go
end Go.Proofs.Ytkgbeihcepociaa.Ex
end

section

set_option linter.unusedSimpArgs false
set_option linter.unusedVariables false
set_option maxRecDepth 10000
set_option maxHeartbeats 4000000
namespace Go.Proofs.Ytkgbeihcepociaa.Ex
open Go
end Go.Proofs.Ytkgbeihcepociaa.Ex
end

section

set_option linter.unusedSimpArgs false
set_option linter.unusedVariables false
set_option maxRecDepth 10000
set_option maxHeartbeats 4000000
namespace Go.Proofs.Ytkgbeihcepociaa.Ex
open Go
end Go.Proofs.Ytkgbeihcepociaa.Ex
end

section

set_option linter.unusedSimpArgs false
set_option linter.unusedVariables false
set_option maxRecDepth 10000
set_option maxHeartbeats 4000000
namespace Go.Proofs.Ytkgbeihcepociaa.Ex
open Go
def osdU : OsdD := ⟨true, true, 65536, 1, 1, 1⟩
def osdV : OsdD := ⟨true, false, 65536, 1, 1, 0⟩
def poolT : PoolD := ⟨1, 2, 2, 1⟩
def bktT : BktD := ⟨-1, 3, [0, 1], [65536, 65536]⟩
def mapU : MapD := ⟨1, [osdU, osdU], [poolT], [bktT], 0⟩
def mapV : MapD := ⟨2, [osdU, osdV], [poolT], [bktT], 0⟩
def twoD : List MapD := [mapU, mapV]
theorem IsSl.ofAt {α : Type} {R : Rep α} {F : Nat → Prop} {h : AH} {p : Nat} {e : TypeId} {L : List (List AV)} {xs : List α} {n : Nat} (hat : h.at p = some (.cells L.flatten e)) (hF : F p) (he : Els R F h L xs) (hn : xs.length = n) : IsSl R F h (.sl p 0 n (.kn n)) xs := by
  subst hn
  have hl := flat_len (z := R.z) he.lens
  refine .mk ⟨he.lens, .inr ⟨p, 0, .kn xs.length, L.flatten, by rw [he.1], by unfold getR; rw [hat], ?_⟩⟩ (fun b off n cap e => by cases e; exact hF) (fun b off n cap e => by cases e; exact Nat.le_refl _) he
  unfold cut
  rw [if_pos (by rw [hl]; omega), List.drop_zero, ← hl, List.take_length]
def pushL (h : AH) : List AB → AH
  | [] => h
  | x :: r => pushL (h.push x) r
theorem pushL_ext : ∀ {l : List AB} {h : AH} {n0 : Nat}, n0 ≤ h.n → Ext n0 h (pushL h l)
  | [], h, n0, _ => Ext.refl _ _
  | x :: r, h, n0, hn => ((Ext.refl _ _).push x hn).trans (pushL_ext (by rw [n_push]; omega))
theorem pushL_at : ∀ {l : List AB} {h : AH} {i : Nat} {x : AB}, l[i]? = some x → (pushL h l).at (h.n + i) = some x
  | y :: r, h, 0, x, e => by
    cases e
    exact ((pushL_ext (l := r) (Nat.le_refl (h.push y).n)).2 _ (by rw [n_push]; omega)).trans (at_push_n _ _)
  | y :: r, h, i + 1, x, e => by
    have := pushL_at (l := r) (h := h.push y) (i := i) (x := x) e
    rw [n_push] at this
    rw [show h.n + (i + 1) = h.n + 1 + i by omega]
    exact this
theorem two_x {H : AH} :
    WC Try.prog (tabOf Try.prog NT0) S0 81 [] H fun r h' => Ext H.n H h' ∧ IsSl RMp (fun b => H.n ≤ b) h' r twoD := by
  refine WC_fn Try.func81 rfl rfl ?_
  simp only [core, Nat.reduceAdd, Nat.reduceSub, Nat.reduceMul, Nat.reduceLT, Nat.reduceEqDiff, reduceCtorEq, Nat.reduceLeDiff, Int.reduceLE, Int.reduceLT, Int.reduceToNat, Try.ntmps81]
  obtain ⟨bs, hbs⟩ : ∃ bs : List AB, bs = [.cells [.lit (.int .i64 0), .lit (.int .i64 1)] 3, .cells [.lit (.int .i64 65536), .lit (.int .i64 65536)] 3, .cells [.lit (.int .i64 (-1)), .lit (.int .i64 3), .sl H.n 0 2 (.kn 2), .sl (H.n + 1) 0 2 (.kn 2)] 92, .cells [.lit (.bool true), .lit (.bool true), .lit (.int .i64 65536), .lit (.int .i64 1), .lit (.int .i64 1), .lit (.int .i64 1)] 43, .cells [.lit (.bool true), .lit (.bool true), .lit (.int .i64 65536), .lit (.int .i64 1), .lit (.int .i64 1), .lit (.int .i64 1), .lit (.bool true), .lit (.bool true), .lit (.int .i64 65536), .lit (.int .i64 1), .lit (.int .i64 1), .lit (.int .i64 1)] 43, .cells [.lit (.int .i64 1), .lit (.int .i64 2), .lit (.int .i64 2), .lit (.int .i64 1)] 94, .cells [.lit (.int .i64 (-1)), .lit (.int .i64 3), .sl H.n 0 2 (.kn 2), .sl (H.n + 1) 0 2 (.kn 2)] 92, .cells [.lit (.int .i64 1), .sl (H.n + 4) 0 2 (.kn 2), .sl (H.n + 5) 0 1 (.kn 1), .sl (H.n + 6) 0 1 (.kn 1), .lit (.int .i64 0)] 31, .cells [.lit (.int .i64 2), .sl (H.n + 9) 0 2 (.kn 2), .sl (H.n + 5) 0 1 (.kn 1), .sl (H.n + 6) 0 1 (.kn 1), .lit (.int .i64 0)] 31, .cells [.lit (.bool true), .lit (.bool true), .lit (.int .i64 65536), .lit (.int .i64 1), .lit (.int .i64 1), .lit (.int .i64 1), .lit (.bool true), .lit (.bool false), .lit (.int .i64 65536), .lit (.int .i64 1), .lit (.int .i64 1), .lit (.int .i64 0)] 43, .cells [.lit (.int .i64 1), .sl (H.n + 4) 0 2 (.kn 2), .sl (H.n + 5) 0 1 (.kn 1), .sl (H.n + 6) 0 1 (.kn 1), .lit (.int .i64 0), .lit (.int .i64 2), .sl (H.n + 9) 0 2 (.kn 2), .sl (H.n + 5) 0 1 (.kn 1), .sl (H.n + 6) 0 1 (.kn 1), .lit (.int .i64 0)] 31] := ⟨_, rfl⟩
  have hh : Ext H.n H (pushL H bs) ∧ IsSl RMp (fun b => H.n ≤ b) (pushL H bs) (.sl (H.n + 10) 0 2 (.kn 2)) twoD := by
    have at' : ∀ i x, bs[i]? = some x → (pushL H bs).at (H.n + i) = some x := fun i x e => pushL_at e
    have A0 := at' 0 _ (by rw [hbs]; rfl)
    have A1 := at' 1 _ (by rw [hbs]; rfl)
    have A4 := at' 4 _ (by rw [hbs]; rfl)
    have A5 := at' 5 _ (by rw [hbs]; rfl)
    have A6 := at' 6 _ (by rw [hbs]; rfl)
    have A9 := at' 9 _ (by rw [hbs]; rfl)
    have A10 := at' 10 _ (by rw [hbs]; rfl)
    refine ⟨pushL_ext (Nat.le_refl _), ?_⟩
    generalize pushL H bs = h' at A0 A1 A4 A5 A6 A9 A10
    have i64 : ∀ n : Int, -65536 ≤ n → n ≤ 65536 → I64 n := fun n a b => ⟨by omega, by omega⟩
    have S0 : IsSl RInt (fun b => H.n ≤ b) h' (.sl H.n 0 2 (.kn 2)) [0, 1] := IsSl.ofAt (L := [[.lit (.int .i64 0)], [.lit (.int .i64 1)]]) A0 (Nat.le_refl _) ((Els.nil.snoc (RInt_is.2 ⟨rfl, i64 _ (by decide) (by decide)⟩)).snoc (RInt_is.2 ⟨rfl, i64 _ (by decide) (by decide)⟩)) rfl
    have S1 : IsSl RInt (fun b => H.n ≤ b) h' (.sl (H.n + 1) 0 2 (.kn 2)) [65536, 65536] := IsSl.ofAt (L := [[.lit (.int .i64 65536)], [.lit (.int .i64 65536)]]) A1 (by omega) ((Els.nil.snoc (RInt_is.2 ⟨rfl, i64 _ (by decide) (by decide)⟩)).snoc (RInt_is.2 ⟨rfl, i64 _ (by decide) (by decide)⟩)) rfl
    have rU : ROsd.is (fun b => H.n ≤ b) h' [.lit (.bool true), .lit (.bool true), .lit (.int .i64 65536), .lit (.int .i64 1), .lit (.int .i64 1), .lit (.int .i64 1)] osdU := ROsd_is.2 ⟨rfl, i64 _ (by decide) (by decide), i64 _ (by decide) (by decide), i64 _ (by decide) (by decide), i64 _ (by decide) (by decide)⟩
    have rV : ROsd.is (fun b => H.n ≤ b) h' [.lit (.bool true), .lit (.bool false), .lit (.int .i64 65536), .lit (.int .i64 1), .lit (.int .i64 1), .lit (.int .i64 0)] osdV := ROsd_is.2 ⟨rfl, i64 _ (by decide) (by decide), i64 _ (by decide) (by decide), i64 _ (by decide) (by decide), i64 _ (by decide) (by decide)⟩
    have S4 : IsSl ROsd (fun b => H.n ≤ b) h' (.sl (H.n + 4) 0 2 (.kn 2)) [osdU, osdU] := IsSl.ofAt (L := [[.lit (.bool true), .lit (.bool true), .lit (.int .i64 65536), .lit (.int .i64 1), .lit (.int .i64 1), .lit (.int .i64 1)], [.lit (.bool true), .lit (.bool true), .lit (.int .i64 65536), .lit (.int .i64 1), .lit (.int .i64 1), .lit (.int .i64 1)]]) A4 (by omega) ((Els.nil.snoc rU).snoc rU) rfl
    have S9 : IsSl ROsd (fun b => H.n ≤ b) h' (.sl (H.n + 9) 0 2 (.kn 2)) [osdU, osdV] := IsSl.ofAt (L := [[.lit (.bool true), .lit (.bool true), .lit (.int .i64 65536), .lit (.int .i64 1), .lit (.int .i64 1), .lit (.int .i64 1)], [.lit (.bool true), .lit (.bool false), .lit (.int .i64 65536), .lit (.int .i64 1), .lit (.int .i64 1), .lit (.int .i64 0)]]) A9 (by omega) ((Els.nil.snoc rU).snoc rV) rfl
    have S5 : IsSl RPool (fun b => H.n ≤ b) h' (.sl (H.n + 5) 0 1 (.kn 1)) [poolT] := IsSl.ofAt (L := [[.lit (.int .i64 1), .lit (.int .i64 2), .lit (.int .i64 2), .lit (.int .i64 1)]]) A5 (by omega) (Els.nil.snoc (RPool_is.2 ⟨rfl, i64 _ (by decide) (by decide), i64 _ (by decide) (by decide), i64 _ (by decide) (by decide), i64 _ (by decide) (by decide)⟩)) rfl
    have S6 : IsSl RBkt (fun b => H.n ≤ b) h' (.sl (H.n + 6) 0 1 (.kn 1)) [bktT] := IsSl.ofAt (L := [[.lit (.int .i64 (-1)), .lit (.int .i64 3), .sl H.n 0 2 (.kn 2), .sl (H.n + 1) 0 2 (.kn 2)]]) A6 (by omega) (Els.nil.snoc (RBkt_is.2 ⟨_, _, rfl, S0, S1, i64 _ (by decide) (by decide), i64 _ (by decide) (by decide)⟩)) rfl
    have rm1 : RMp.is (fun b => H.n ≤ b) h' [.lit (.int .i64 1), .sl (H.n + 4) 0 2 (.kn 2), .sl (H.n + 5) 0 1 (.kn 1), .sl (H.n + 6) 0 1 (.kn 1), .lit (.int .i64 0)] mapU := RMp_is.2 ⟨_, _, _, rfl, S4, S5, S6, i64 _ (by decide) (by decide), i64 _ (by decide) (by decide)⟩
    have rm2 : RMp.is (fun b => H.n ≤ b) h' [.lit (.int .i64 2), .sl (H.n + 9) 0 2 (.kn 2), .sl (H.n + 5) 0 1 (.kn 1), .sl (H.n + 6) 0 1 (.kn 1), .lit (.int .i64 0)] mapV := RMp_is.2 ⟨_, _, _, rfl, S9, S5, S6, i64 _ (by decide) (by decide), i64 _ (by decide) (by decide)⟩
    exact IsSl.ofAt (L := [[.lit (.int .i64 1), .sl (H.n + 4) 0 2 (.kn 2), .sl (H.n + 5) 0 1 (.kn 1), .sl (H.n + 6) 0 1 (.kn 1), .lit (.int .i64 0)], [.lit (.int .i64 2), .sl (H.n + 9) 0 2 (.kn 2), .sl (H.n + 5) 0 1 (.kn 1), .sl (H.n + 6) 0 1 (.kn 1), .lit (.int .i64 0)]]) A10 (by omega) ((Els.nil.snoc rm1).snoc rm2) rfl
  rw [hbs] at hh
  exact hh
end Go.Proofs.Ytkgbeihcepociaa.Ex
end

section

set_option linter.unusedSimpArgs false
set_option linter.unusedVariables false
set_option maxRecDepth 10000
set_option maxHeartbeats 4000000
namespace Go.Proofs.Ytkgbeihcepociaa.Ex
open Go
theorem two_ok : ∀ m ∈ twoD, OkMp m := by
  intro m hm
  simp only [twoD, List.mem_cons, List.not_mem_nil, or_false] at hm
  rcases hm with rfl | rfl
  all_goals
    refine ⟨⟨by unfold Sm; decide, fun _ _ => trivial⟩, ⟨by unfold Sm; decide, fun _ _ => trivial⟩, ⟨by unfold Sm; decide, fun y hy => ?_⟩⟩
    have hy : y ∈ [bktT] := hy
    rw [List.mem_singleton] at hy
    subst hy
    exact ⟨by unfold Sm; decide, by unfold Sm; decide⟩
theorem two_ivs : (ivsF 1 0 twoD).map (fun x => (x.first, x.last, x.mayRw)) = [(1, 1, true), (2, 2, false)] := by decide +kernel
theorem two_first : firstF 1 0 twoD = 2 := by decide +kernel
theorem two_prior : (priorF 0 (ivsF 1 0 twoD)).length = 1 := by decide +kernel
theorem lives15_x {H : AH} : WC Try.prog (tabOf Try.prog NT0) S0 31 [] H fun r h' => Ext H.n H h' ∧ r = .lit (.bool true) := by
  refine WC_fn Try.func31 rfl rfl ?_
  simp only [core, Nat.reduceAdd, Nat.reduceSub, Nat.reduceMul, Nat.reduceLT, Nat.reduceEqDiff, reduceCtorEq, Nat.reduceLeDiff, Int.reduceLE, Int.reduceLT, Int.reduceToNat, Try.ntmps31]
  obtain ⟨h1, hh1⟩ : ∃ h1, h1 = H.push (.cells [.lit (.int .i64 1), .lit (.int .i64 0)] 56) := ⟨_, rfl⟩
  have E1 : Ext H.n H h1 := hh1 ▸ (Ext.refl _ _).push _ (Nat.le_refl _)
  have P1 : h1.at H.n = some (.cells [.lit (.int .i64 1), .lit (.int .i64 0)] 56) := hh1 ▸ at_push_n _ _
  rw [← hh1]
  clear hh1
  have lp1 := at_lt P1
  have LP1 := ld_at (T := tabOf Try.prog NT0) P1
  rw [WB_regionD [1, 0, 2, 3] 29440 (by kernel_rfl)]
  repeat ((with_reducible refine WDM_cons ?_; simp only [dw1]; try simp only [dw2, Nat.reduceAdd, Nat.reduceMul, Nat.reduceShiftRight, Nat.reduceMod, Nat.reduceEqDiff]); simp only [core, Nat.reduceAdd, Nat.reduceSub, Nat.reduceMul, Nat.reduceLT, Nat.reduceEqDiff, reduceCtorEq, Nat.reduceLeDiff, Int.reduceLE, Int.reduceLT, Int.reduceToNat, cored, LP1, lp1])
  refine two_x.mono ?_
  rintro v h2 ⟨e2, hv⟩
  have E2 := E1.step e2
  have P2 := (e2.2 _ lp1).trans P1
  have lp2 := at_lt P2
  have LP2 := ld_at (T := tabOf Try.prog NT0) P2
  have v1 := hv.isSl
  repeat ((with_reducible refine WDM_cons ?_; simp only [dw1]; try simp only [dw2, Nat.reduceAdd, Nat.reduceMul, Nat.reduceShiftRight, Nat.reduceMod, Nat.reduceEqDiff]); simp only [core, Nat.reduceAdd, Nat.reduceSub, Nat.reduceMul, Nat.reduceLT, Nat.reduceEqDiff, reduceCtorEq, Nat.reduceLeDiff, Int.reduceLE, Int.reduceLT, Int.reduceToNat, cored, LP2, lp2, v1])
  refine (all_x 1 0 hv (by unfold Sm; decide) two_ok).mono ?_
  rintro r h3 ⟨e3, n0, -, ho⟩
  have E3 := E2.step e3
  have r1 := ho.isSl
  have r2 := ho.lenD
  have hr := ho.toSl (F := fun _ => True) (fun _ _ => trivial) (fun _ _ => trivial)
  obtain ⟨xs, hxs⟩ : ∃ xs, xs = ivsF 1 0 twoD := ⟨_, rfl⟩
  have hmap := two_ivs
  have hpr := two_prior
  have hac := fun x hx => ivs_ok (pool := 1) (seed := 0) (ms := twoD) x hx
  rw [← hxs] at hr r2 hmap hpr hac
  obtain ⟨x, y, rfl⟩ : ∃ x y, xs = [x, y] := by
    match xs, hmap with
    | [x, y], _ => exact ⟨x, y, rfl⟩
    | [], h => simp at h
    | [_], h => simp at h
    | _ :: _ :: _ :: _, h => simp at h
  simp only [List.map_cons, List.map_nil, List.cons.injEq, Prod.mk.injEq, and_true] at hmap
  obtain ⟨⟨f1, f2, f3⟩, g1, g2, g3⟩ := hmap
  obtain ⟨c, hc1, hld, hld0⟩ := hr.at (T := tabOf Try.prog NT0) RIv_z (i := 0) rfl
  obtain ⟨va, vb, rfl, -⟩ := RIv_is.1 hc1
  obtain ⟨c, hc2, hld', hld0'⟩ := hr.at (T := tabOf Try.prog NT0) RIv_z (i := 1) rfl
  obtain ⟨ua, ub, rfl, -⟩ := RIv_is.1 hc2
  simp only [Nat.zero_mul, Nat.add_zero, Nat.one_mul, f1, f2, f3, g3] at hld hld0 hld' hld0'
  have r2 : lenD r = 2 := r2
  have P3 := (e3.2 _ lp2).trans P2
  have lp3 := at_lt P3
  repeat ((with_reducible refine WDM_cons ?_; simp only [dw1]; try simp only [dw2, Nat.reduceAdd, Nat.reduceMul, Nat.reduceShiftRight, Nat.reduceMod, Nat.reduceEqDiff]); simp only [core, Nat.reduceAdd, Nat.reduceSub, Nat.reduceMul, Nat.reduceLT, Nat.reduceEqDiff, reduceCtorEq, Nat.reduceLeDiff, Int.reduceLE, Int.reduceLT, Int.reduceToNat, cored, r1])
  rw [WB_regionD [0, 1, 2, 3, 4, 5, 6, 7, 8, 9, 10, 11, 12, 13, 14, 15, 16, 17, 18, 19, 20, 21, 22, 23, 24, 25, 26, 27, 28, 29, 30, 31, 32, 33, 34, 35, 36, 38, 37, 39, 40, 41, 42] 20110922251646537642132421906151569872943364259989109016880945412238388916792015009970852157851158110947368603491339289596345835558468903417571743530785022850888530136036152000767647319844125367678496370972940275815732132005785689859647616858718016294671913686963794017969212488819327369349009283321050081721442510910207782513382829651839254863670035665280922732301997373115565987903096236233199972629241155340038622978175260730195761315607033448893122584077788098250363931884127106218521008806390542039810619045307074896813133560438831211869258899880148992 (by kernel_rfl)]
  have hk : (((2 : Nat) : Int) == 2) = true := rfl
  have hk1 : ((1 : Int) == 1) = true := rfl
  have hk2 : 0 < 2 := by decide
  have hk3 : 1 < 2 := by decide
  repeat ((with_reducible refine WDM_cons ?_; simp only [dw1]; try simp only [dw2, Nat.reduceAdd, Nat.reduceMul, Nat.reduceShiftRight, Nat.reduceMod, Nat.reduceEqDiff]); simp only [core, Nat.reduceAdd, Nat.reduceSub, Nat.reduceMul, Nat.reduceLT, Nat.reduceEqDiff, reduceCtorEq, Nat.reduceLeDiff, Int.reduceLE, Int.reduceLT, Int.reduceToNat, cored, r1, r2, hk, hk1, hk2, hk3, hld, hld0, hld', hld0'])
  refine (prior_x 0 hr (by show 2 * 72 ≤ _; decide) (fun z hz => by have := hac z hz; omega)).mono ?_
  rintro q h4 ⟨e4, hq⟩
  have E4 := E3.step e4
  have q1 := hq.isSl
  have q2 := hq.lenD
  rw [hpr] at q2
  have P4 := (e4.2 _ lp3).trans P3
  have lp4 := at_lt P4
  have LP4 := ld_at (T := tabOf Try.prog NT0) P4
  have hk4 : (((1 : Nat) : Int) == 1) = true := rfl
  repeat ((with_reducible refine WDM_cons ?_; simp only [dw1]; try simp only [dw2, Nat.reduceAdd, Nat.reduceMul, Nat.reduceShiftRight, Nat.reduceMod, Nat.reduceEqDiff]); simp only [core, Nat.reduceAdd, Nat.reduceSub, Nat.reduceMul, Nat.reduceLT, Nat.reduceEqDiff, reduceCtorEq, Nat.reduceLeDiff, Int.reduceLE, Int.reduceLT, Int.reduceToNat, cored, q1, q2, hk4, LP4, lp4])
  refine two_x.mono ?_
  rintro v' h5 ⟨e5, hv'⟩
  have E5 := E4.step e5
  have P5 := (e5.2 _ lp4).trans P4
  have lp5 := at_lt P5
  have LP5 := ld_at (T := tabOf Try.prog NT0) P5
  have v1' := hv'.isSl
  repeat ((with_reducible refine WDM_cons ?_; simp only [dw1]; try simp only [dw2, Nat.reduceAdd, Nat.reduceMul, Nat.reduceShiftRight, Nat.reduceMod, Nat.reduceEqDiff]); simp only [core, Nat.reduceAdd, Nat.reduceSub, Nat.reduceMul, Nat.reduceLT, Nat.reduceEqDiff, reduceCtorEq, Nat.reduceLeDiff, Int.reduceLE, Int.reduceLT, Int.reduceToNat, cored, LP5, lp5, v1'])
  refine (first_x 1 0 hv' (by unfold Sm; decide) two_ok).mono ?_
  rintro _ h6 ⟨e6, rfl⟩
  rw [two_first]
  have hk5 : ((2 : Int) == 2) = true := rfl
  repeat ((with_reducible refine WDM_cons ?_; simp only [dw1]; try simp only [dw2, Nat.reduceAdd, Nat.reduceMul, Nat.reduceShiftRight, Nat.reduceMod, Nat.reduceEqDiff]); simp only [core, Nat.reduceAdd, Nat.reduceSub, Nat.reduceMul, Nat.reduceLT, Nat.reduceEqDiff, reduceCtorEq, Nat.reduceLeDiff, Int.reduceLE, Int.reduceLT, Int.reduceToNat, cored, hk5])
  exact E5.step e6
end Go.Proofs.Ytkgbeihcepociaa.Ex
end

section

set_option linter.unusedSimpArgs false
set_option linter.unusedVariables false
set_option maxRecDepth 10000
set_option maxHeartbeats 4000000
namespace Go.Proofs.Ytkgbeihcepociaa.Ex
open Go
theorem prior15_x {F : Nat → Prop} {H : AH} {v : AV} {xs : List IvD} (les : Int) (hv : IsSl RIv F H v xs) (hl : xs.length * 72 ≤ 140737488355328) (hs : ∀ x ∈ xs, x.acting.length * 8 ≤ 140737488355328 ∧ x.boots.length * 8 ≤ 140737488355328) :
    WC Try.prog (tabOf Try.prog NT0) S0 39 [v, .lit (.int .i64 les)] H fun r h' => Ext H.n H h' ∧ IsSl RIv (fun b => H.n ≤ b) h' r (priorF les xs) := by
  refine WC_fn Try.func39 rfl rfl ?_
  have s1 := hv.isSl
  have s2 := hv.lenD
  simp only [core, Nat.reduceAdd, Nat.reduceSub, Nat.reduceMul, Nat.reduceLT, Nat.reduceEqDiff, reduceCtorEq, Nat.reduceLeDiff, Int.reduceLE, Int.reduceLT, Int.reduceToNat, Try.ntmps39, s1, s2]
  refine WB_for (xs.length - 1) (fun i t h => ∃ o, OwnL RIv (fun b => H.n ≤ b) H.n h o 65 ((xs.dropLast.take i).filter (askF les)) ∧ Ext H.n H h ∧ t.n = 48 ∧ t.get 0 = v ∧ t.get 1 = .lit (.int .i64 les) ∧ t.get 5 = o ∧ t.get 6 = .lit (.int .i64 i)) ?_ ?_ _ _ ?_
  · rintro i t h hp' - ⟨o, ho, he, hn, g0, g1, g5, g6⟩ ih
    have hlt : i < xs.length := by omega
    have hc : (((i + 1 : Nat) : Int) < (xs.length : Int)) = True := by simp; omega
    obtain ⟨x, hx⟩ : ∃ x, xs[i]? = some x := ⟨_, List.getElem?_eq_getElem hlt⟩
    have hv1 := hv.ext he (Nat.le_refl _)
    obtain ⟨c, hc1, hld, hld0⟩ := hv1.at (T := tabOf Try.prog NT0) RIv_z hx
    obtain ⟨va, vb, rfl, ha, hb, i1, i2⟩ := RIv_is.1 hc1
    have a1 := ha.one
    have b1 := hb.one
    have hw := wrap_succ hlt (by omega)
    have hst := prior_step les hx hp'
    simp only [core, Nat.reduceAdd, Nat.reduceSub, Nat.reduceMul, Nat.reduceLT, Nat.reduceEqDiff, reduceCtorEq, Nat.reduceLeDiff, Int.reduceLE, Int.reduceLT, Int.reduceToNat, s1, s2, hn, g0, g1, g5, g6, hlt, hc, hld, hld0, hw, a1, b1]
    refine WReg_bool (fun hm => ?_) (fun hm => ?_)
    · simp only [core, Nat.reduceAdd, Nat.reduceSub, Nat.reduceMul, Nat.reduceLT, Nat.reduceEqDiff, reduceCtorEq, Nat.reduceLeDiff, Int.reduceLE, Int.reduceLT, Int.reduceToNat, s1, s2, hn, g0, g1, g5, g6, hlt, hc, hld, hld0, hw, a1, b1, hm]
      refine ⟨fun hf => ?_, fun hf => ?_⟩
      · obtain ⟨hxa, hxb⟩ := hs x (List.mem_of_getElem? hx)
        obtain ⟨hp0, hhp⟩ : ∃ hp, hp = h.push (.cells [.lit (.int .i64 x.first), .lit (.int .i64 x.last), va, vb, .lit (.bool true)] 65) := ⟨_, rfl⟩
        have E0 : Ext h.n h hp0 := hhp ▸ (Ext.refl _ _).push _ (Nat.le_refl _)
        have N0 : hp0.n = h.n + 1 := by rw [hhp, n_push]
        have A0 : hp0.at h.n = some (.cells [.lit (.int .i64 x.first), .lit (.int .i64 x.last), va, vb, .lit (.bool true)] 65) := hhp ▸ at_push_n h _
        rw [← hhp]
        refine WOp_app (fresh_ints N0.symm (ha.ext E0 (Nat.le_refl _)) hxa) ?_
        rintro ra h1 ⟨E1, ra1, -⟩
        have A1 : h1.at h.n = some (.cells [.lit (.int .i64 x.first), .lit (.int .i64 x.last), va, vb, .lit (.bool true)] 65) := (E1.2 _ (by omega)).trans A0
        have N1 : h.n < h1.n := at_lt A1
        have a3 := ra1.one
        simp only [core, Nat.reduceAdd, Nat.reduceSub, Nat.reduceMul, Nat.reduceLT, Nat.reduceEqDiff, reduceCtorEq, Nat.reduceLeDiff, Int.reduceLE, Int.reduceLT, Int.reduceToNat, s1, s2, hn, g0, g1, g5, g6, A1, a3, a1, b1]
        obtain ⟨q1, hq1⟩ : ∃ q, q = h1.put h.n (.cells [.lit (.int .i64 x.first), .lit (.int .i64 x.last), ra, vb, .lit (.bool true)] 65) := ⟨_, rfl⟩
        have B1 : q1.at h.n = some (.cells [.lit (.int .i64 x.first), .lit (.int .i64 x.last), ra, vb, .lit (.bool true)] 65) := hq1 ▸ at_put_same _ N1
        have F1 : ∀ b, b ≠ h.n → q1.at b = h1.at b := fun b hb => hq1 ▸ at_put_ne _ (Ne.symm hb)
        have M1 : q1.n = h1.n := hq1 ▸ n_put _ _ _
        have L1 := ld_at (T := tabOf Try.prog NT0) B1
        have N2 : h.n < q1.n := by omega
        rw [← hq1]
        simp only [core, Nat.reduceAdd, Nat.reduceSub, Nat.reduceMul, Nat.reduceLT, Nat.reduceEqDiff, reduceCtorEq, Nat.reduceLeDiff, Int.reduceLE, Int.reduceLT, Int.reduceToNat, s1, s2, hn, g0, g1, g5, g6, L1, N2, a3, a1, b1]
        have hvb : IsSl RInt F q1 vb x.boots := hb.lift fun b hF hlt => ⟨(F1 b (by omega)).trans ((E1.2 b (by omega)).trans (E0.2 b hlt)), hF⟩
        refine WOp_app (fresh_ints M1.symm hvb hxb) ?_
        rintro rb h2 ⟨E2, rb1, -⟩
        have A2 : h2.at h.n = some (.cells [.lit (.int .i64 x.first), .lit (.int .i64 x.last), ra, vb, .lit (.bool true)] 65) := (E2.2 _ (by omega)).trans B1
        have N3 : h.n < h2.n := at_lt A2
        have b3 := rb1.one
        simp only [core, Nat.reduceAdd, Nat.reduceSub, Nat.reduceMul, Nat.reduceLT, Nat.reduceEqDiff, reduceCtorEq, Nat.reduceLeDiff, Int.reduceLE, Int.reduceLT, Int.reduceToNat, s1, s2, hn, g0, g1, g5, g6, A2, N3, a3, a1, b1, b3]
        obtain ⟨q2, hq2⟩ : ∃ q, q = h2.put h.n (.cells [.lit (.int .i64 x.first), .lit (.int .i64 x.last), ra, rb, .lit (.bool true)] 65) := ⟨_, rfl⟩
        have F2 : ∀ b, b ≠ h.n → q2.at b = h2.at b := fun b hb => hq2 ▸ at_put_ne _ (Ne.symm hb)
        have M2 : q2.n = h2.n := hq2 ▸ n_put _ _ _
        obtain ⟨q3, hq3⟩ : ∃ q, q = q2.push (.cells [.lit (.int .i64 x.first), .lit (.int .i64 x.last), ra, rb, .lit (.bool true)] 65) := ⟨_, rfl⟩
        have A3 : q3.at h2.n = some (.cells [.lit (.int .i64 x.first), .lit (.int .i64 x.last), ra, rb, .lit (.bool true)] 65) := by rw [hq3, ← M2]; exact at_push_n _ _
        have F3 : ∀ b, b < q2.n → q3.at b = q2.at b := fun b hb => hq3 ▸ at_push_lt _ hb
        have M3 : q3.n = q2.n + 1 := by rw [hq3, n_push]
        rw [← hq2, ← hq3]
        have hlow : Ext h.n h q3 := ⟨by have := E1.1; have := E2.1; omega, fun b hb => (F3 b (by have := E2.1; omega)).trans ((F2 b (by omega)).trans ((E2.2 b (by omega)).trans ((F1 b (by omega)).trans ((E1.2 b (by omega)).trans (E0.2 b hb)))))⟩
        have ho3 := ho.ext hlow (Nat.le_refl _)
        have hE3 : Ext H.n H q3 := he.trans (hlow.mono he.1)
        have hlen : ((xs.dropLast.take i).filter (askF les)).length + 1 ≤ xs.length := by
          have := List.length_filter_le (askF les) (xs.dropLast.take i)
          rw [List.length_take, List.length_dropLast] at this
          omega
        refine WOp_app (ho3.snoc (by kernel_rfl) (by kernel_rfl) (by kernel_rfl) (zv := .agg [.lit (.int .i64 0), .lit (.int .i64 0), .lit (.slice none 0 0), .lit (.slice none 0 0), .lit (.bool false)]) (by kernel_rfl) (by' := 72) (by kernel_rfl) rfl (by decide) (by decide) A3
          (y := x) (RIv_is.2 ⟨ra, rb, by rw [hm], ?_, ?_, i1, i2⟩) (by omega) (by omega) hE3.1) ?_
        · exact ra1.lift fun b hb hlt => ⟨(F3 b (by have := E2.1; omega)).trans ((F2 b (by omega)).trans ((E2.2 b (by omega)).trans (F1 b (by omega)))), by have := he.1; omega, ho.apart (by omega)⟩
        · exact rb1.lift fun b hb hlt => ⟨(F3 b (by omega)).trans (F2 b (by have := E1.1; omega)), by have := he.1; have := E1.1; omega, ho.apart (by have := E1.1; omega)⟩
        · rintro s' h' ⟨o1, e1, -⟩
          simp only [core, Nat.reduceAdd, Nat.reduceSub, Nat.reduceMul, Nat.reduceLT, Nat.reduceEqDiff, reduceCtorEq, Nat.reduceLeDiff, Int.reduceLE, Int.reduceLT, Int.reduceToNat, s1, s2, hn, g0, g1, g5, g6, hlt, hc, hw]
          refine ih _ _ ⟨s', ?_, hE3.trans e1, ?_⟩
          · rw [hst, if_pos (by simp [askF, hm, hf])]
            exact o1
          · simp only [core, Nat.reduceAdd, Nat.reduceSub, Nat.reduceMul, Nat.reduceLT, Nat.reduceEqDiff, reduceCtorEq, Nat.reduceLeDiff, Int.reduceLE, Int.reduceLT, Int.reduceToNat, hn, g0, g1, g5, g6]
      · refine ih _ _ ⟨o, ?_, he, ?_⟩
        · rw [hst, if_neg (by simp [askF, hm]; simpa using hf), List.append_nil]
          exact ho
        · simp only [core, Nat.reduceAdd, Nat.reduceSub, Nat.reduceMul, Nat.reduceLT, Nat.reduceEqDiff, reduceCtorEq, Nat.reduceLeDiff, Int.reduceLE, Int.reduceLT, Int.reduceToNat, hn, g0, g1, g5, g6]
    · simp only [core, Nat.reduceAdd, Nat.reduceSub, Nat.reduceMul, Nat.reduceLT, Nat.reduceEqDiff, reduceCtorEq, Nat.reduceLeDiff, Int.reduceLE, Int.reduceLT, Int.reduceToNat, s1, s2, hn, g0, g1, g5, g6, hlt, hc, hld, hld0, hw, a1, b1, hm]
      refine ih _ _ ⟨o, ?_, he, ?_⟩
      · rw [hst, if_neg (by simp [askF, hm]), List.append_nil]
        exact ho
      · simp only [core, Nat.reduceAdd, Nat.reduceSub, Nat.reduceMul, Nat.reduceLT, Nat.reduceEqDiff, reduceCtorEq, Nat.reduceLeDiff, Int.reduceLE, Int.reduceLT, Int.reduceToNat, hn, g0, g1, g5, g6]
  · rintro t h - ⟨o, ho, he, hn, g0, g1, g5, g6⟩
    have hc : (IntKind.i64.wrap (((xs.length - 1 : Nat) : Int) + 1) < (xs.length : Int)) = False := by
      rw [wrap_in (by omega) (by omega)]
      simp
      omega
    simp only [core, Nat.reduceAdd, Nat.reduceSub, Nat.reduceMul, Nat.reduceLT, Nat.reduceEqDiff, reduceCtorEq, Nat.reduceLeDiff, Int.reduceLE, Int.reduceLT, Int.reduceToNat, s1, s2, hn, g0, g1, g5, g6, hc]
    refine ⟨he, ?_⟩
    rw [List.take_of_length_le (by rw [List.length_dropLast]; omega)] at ho
    exact ho.toSl (fun _ h => h) (fun _ h => h)
  · refine ⟨.lit (.slice none 0 0), ?_, Ext.refl _ _, ?_⟩
    · exact OwnL.nil
    · simp only [core, Nat.reduceAdd, Nat.reduceSub, Nat.reduceMul, Nat.reduceLT, Nat.reduceEqDiff, reduceCtorEq, Nat.reduceLeDiff, Int.reduceLE, Int.reduceLT, Int.reduceToNat]
      rfl
end Go.Proofs.Ytkgbeihcepociaa.Ex
end

section

set_option linter.unusedSimpArgs false
set_option linter.unusedVariables false
set_option maxRecDepth 10000
set_option maxHeartbeats 4000000
namespace Go.Proofs.Ytkgbeihcepociaa.Ex
open Go
def hitIv (osds : List Int) (infos : List InfoD) (x : IvD) (i : Nat) : Bool :=
  x.acting.contains (osds.getD i 0) && (match infos[i]? with
    | some y => decide (1 ≤ y.born) && decide (y.born ≤ x.first)
    | none => false)
def enoughF (l : List IvD) (les : Int) (osds : List Int) (infos : List InfoD) : Bool := match l.getLast? with
  | none => false
  | some y => y.acting.all (fun k => (osds.take (min osds.length infos.length)).contains k) && (priorF les l).all (fun x => (List.range (min osds.length infos.length)).any (hitIv osds infos x))
theorem all_take {α : Type} {p : α → Bool} {l : List α} {i : Nat} {x : α} (hx : l[i]? = some x) : (l.take (i + 1)).all p = ((l.take i).all p && p x) := by
  rw [List.take_add_one, hx, List.all_append]; simp
theorem all_false {α : Type} {p : α → Bool} {l : List α} {i : Nat} {x : α} (hx : l[i]? = some x) (hp : p x = false) : l.all p = false := by
  rw [List.all_eq_false]
  exact ⟨x, List.mem_of_getElem? hx, by simp [hp]⟩
theorem any_range_succ {p : Nat → Bool} {i : Nat} : (List.range (i + 1)).any p = ((List.range i).any p || p i) := by
  rw [List.range_succ, List.any_append]; simp
theorem any_true {p : Nat → Bool} {n i : Nat} (hi : i < n) (hp : p i = true) : (List.range n).any p = true := by
  rw [List.any_eq_true]
  exact ⟨i, List.mem_range.2 hi, hp⟩
theorem enough_x {F : Nat → Prop} {H : AH} {v vo vi : AV} {xs : List IvD} {osds : List Int} {infos : List InfoD} (les : Int) (hv : IsSl RIv F H v xs) (ho : IsSl RInt F H vo osds) (hi : IsSl RInfo F H vi infos)
    (hl : xs.length * 72 ≤ 140737488355328) (hs : ∀ x ∈ xs, x.acting.length * 8 ≤ 140737488355328 ∧ x.boots.length * 8 ≤ 140737488355328) (hol : osds.length * 8 ≤ 140737488355328) (hil : infos.length ≤ 140737488355328) :
    WC Try.prog (tabOf Try.prog NT0) S0 43 [v, .lit (.int .i64 les), vo, vi] H fun r h' => Ext H.n H h' ∧ r = .lit (.bool (enoughF xs les osds infos)) := by
  refine WC_fn Try.func43 rfl rfl ?_
  have s1 := hv.isSl
  have s2 := hv.lenD
  have s3 := ho.isSl
  have s4 := ho.lenD
  have s5 := hi.isSl
  have s6 := hi.lenD
  simp only [core, Nat.reduceAdd, Nat.reduceSub, Nat.reduceMul, Nat.reduceLT, Nat.reduceEqDiff, reduceCtorEq, Nat.reduceLeDiff, Int.reduceLE, Int.reduceLT, Int.reduceToNat, Try.ntmps43, s1, s2, s3, s4, s5, s6]
  refine ⟨fun he => ?_, fun he => ?_⟩
  · obtain rfl : xs = [] := List.eq_nil_of_length_eq_zero (by have := eq_of_beq he; omega)
    exact ⟨Ext.refl _ _, rfl⟩
  · have h0 : 0 < xs.length := by have := beq_eq_false_iff_ne.1 he; omega
    obtain ⟨y, hy⟩ : ∃ y, xs[xs.length - 1]? = some y := ⟨_, List.getElem?_eq_getElem (by omega)⟩
    have hlast : xs.getLast? = some y := by rw [List.getLast?_eq_getElem?]; exact hy
    obtain ⟨n, hn0⟩ : ∃ n, n = min osds.length infos.length := ⟨_, rfl⟩
    have hn1 : n ≤ osds.length := hn0 ▸ Nat.min_le_left _ _
    have hn2 : n ≤ infos.length := hn0 ▸ Nat.min_le_right _ _
    have hn3 : n = osds.length ∨ n = infos.length := by
      rcases Nat.le_total osds.length infos.length with h | h
      · exact .inl (by rw [hn0, Nat.min_eq_left h])
      · exact .inr (by rw [hn0, Nat.min_eq_right h])
    have hmin : (if (infos.length : Int) < (osds.length : Int) then (infos.length : Int) else (osds.length : Int)) = (n : Int) := by
      split <;> omega
    have hw0 : IntKind.i64.wrap ((xs.length : Int) - 1) = ((xs.length - 1 : Nat) : Int) := (wrap_in (by omega) (by omega)).trans (by omega)
    have hlt0 : xs.length - 1 < xs.length := by omega
    obtain ⟨c, hc1, hld, hld0⟩ := hv.at (T := tabOf Try.prog NT0) RIv_z hy
    obtain ⟨va, vb, rfl, ha, hb, i1, i2⟩ := RIv_is.1 hc1
    have a1 := ha.isSl
    have a2 := ha.lenD
    have hE : enoughF xs les osds infos = (y.acting.all (fun k => (osds.take n).contains k) && (priorF les xs).all (fun x => (List.range n).any (hitIv osds infos x))) := by
      unfold enoughF
      rw [hlast, ← hn0]
    have hya := hs y (List.mem_of_getElem? hy)
    have hno := hn1
    have hno2 : (n : Int) ≤ (osds.length : Int) := by omega
    have hcap : CapOk 1 vo := by obtain ⟨L, -, -, hc, -⟩ := ho.out; exact hc
    have hsub : IsSl RInt F H (subSl 1 0 n vo) (osds.take n) := by have := ho.sub (l := 0) (r := n) (by omega) hno; rw [List.drop_zero] at this; exact this
    simp only [core, Nat.reduceAdd, Nat.reduceSub, Nat.reduceMul, Nat.reduceLT, Nat.reduceEqDiff, reduceCtorEq, Nat.reduceLeDiff, Int.reduceLE, Int.reduceLT, Int.reduceToNat, s1, s2, s3, s4, s5, s6, hmin, hw0, hlt0, hld, hld0, a1, a2]
    refine WB_for y.acting.length (fun i t h => h = H ∧ (y.acting.take i).all (fun k => (osds.take n).contains k) = true ∧ t.n = 81 ∧ t.get 0 = v ∧ t.get 1 = .lit (.int .i64 les) ∧ t.get 2 = vo ∧ t.get 3 = vi ∧ t.get 9 = .lit (.int .i64 n) ∧ t.get 29 = va ∧ t.get 30 = .lit (.int .i64 y.acting.length) ∧ t.get 31 = .lit (.int .i64 i)) ?_ ?_ _ _ ?_
    · rintro i t h hlt hc ⟨rfl, hx, hn, g0, g1, g2, g3, g9, g29, g30, g31⟩ ih
      have hld := ha.int (T := tabOf Try.prog NT0) (e := 3) (by kernel_rfl) (by kernel_rfl) hlt
      have hw := wrap_succ hlt (by omega)
      have hgi : y.acting[i]? = some (y.acting.getD i 0) := by rw [List.getD_eq_getElem?_getD, List.getElem?_eq_getElem hlt]; rfl
      simp only [core, Nat.reduceAdd, Nat.reduceSub, Nat.reduceMul, Nat.reduceLT, Nat.reduceEqDiff, reduceCtorEq, Nat.reduceLeDiff, Int.reduceLE, Int.reduceLT, Int.reduceToNat, s1, s2, s3, s4, s5, s6, a1, a2, hn, g0, g1, g2, g3, g9, g29, g30, g31, hlt, hc, hld, hw, hcap, hno, hno2]
      refine (contains_x _ hsub (by rw [List.length_take]; omega)).mono ?_
      rintro r h' ⟨rfl, rfl⟩
      simp only [core, Nat.reduceAdd, Nat.reduceSub, Nat.reduceMul, Nat.reduceLT, Nat.reduceEqDiff, reduceCtorEq, Nat.reduceLeDiff, Int.reduceLE, Int.reduceLT, Int.reduceToNat, hn, g0, g1, g2, g3, g9, g29, g30, g31]
      refine ⟨fun hq => ?_, fun hq => ?_⟩
      · refine ⟨Ext.refl _ _, ?_⟩
        rw [hE, all_false hgi (by simpa using hq)]
        rfl
      · simp only [core, Nat.reduceAdd, Nat.reduceSub, Nat.reduceMul, Nat.reduceLT, Nat.reduceEqDiff, reduceCtorEq, Nat.reduceLeDiff, Int.reduceLE, Int.reduceLT, Int.reduceToNat, hn, g0, g1, g2, g3, g9, g29, g30, g31, hw]
        refine ih _ _ ⟨rfl, ?_, ?_⟩
        · rw [all_take hgi, hx]
          simpa using hq
        · simp only [core, Nat.reduceAdd, Nat.reduceSub, Nat.reduceMul, Nat.reduceLT, Nat.reduceEqDiff, reduceCtorEq, Nat.reduceLeDiff, Int.reduceLE, Int.reduceLT, Int.reduceToNat, hn, g0, g1, g2, g3, g9, g29, g30, g31]
    · rintro t h hc ⟨rfl, hx, hn, g0, g1, g2, g3, g9, g29, g30, g31⟩
      rw [List.take_length] at hx
      rw [hx, Bool.true_and] at hE
      simp only [core, Nat.reduceAdd, Nat.reduceSub, Nat.reduceMul, Nat.reduceLT, Nat.reduceEqDiff, reduceCtorEq, Nat.reduceLeDiff, Int.reduceLE, Int.reduceLT, Int.reduceToNat, s1, s2, s3, s4, s5, s6, a1, a2, hn, g0, g1, g2, g3, g9, g29, g30, g31, hc]
      refine (prior_x les hv hl hs).mono ?_
      rintro r h1 ⟨e1, hr⟩
      have r1 := hr.isSl
      have r2 := hr.lenD
      have hpl : (priorF les xs).length ≤ xs.length := by
        have := List.length_filter_le (askF les) xs.dropLast
        rw [List.length_dropLast] at this
        exact Nat.le_trans this (by omega)
      simp only [core, Nat.reduceAdd, Nat.reduceSub, Nat.reduceMul, Nat.reduceLT, Nat.reduceEqDiff, reduceCtorEq, Nat.reduceLeDiff, Int.reduceLE, Int.reduceLT, Int.reduceToNat, s1, s2, s3, s4, s5, s6, a1, a2, hn, g0, g1, g2, g3, g9, g29, g30, g31, hc, r1, r2]
      refine WB_for (priorF les xs).length (fun i t h' => Ext h1.n h1 h' ∧ ((priorF les xs).take i).all (fun x => (List.range n).any (hitIv osds infos x)) = true ∧ t.n = 81 ∧ t.get 2 = vo ∧ t.get 3 = vi ∧ t.get 9 = .lit (.int .i64 n) ∧ t.get 44 = r ∧ t.get 45 = .lit (.int .i64 (priorF les xs).length) ∧ t.get 46 = .lit (.int .i64 i)) ?_ ?_ _ _ ?_
      · rintro i t h' hlt hc ⟨e2, hx, hn, g2, g3, g9, g44, g45, g46⟩ ih
        obtain ⟨x, hxi⟩ : ∃ x, (priorF les xs)[i]? = some x := ⟨_, List.getElem?_eq_getElem hlt⟩
        have hr1 := hr.ext e2 (Nat.le_refl _)
        obtain ⟨c, hc1, hld, hld0⟩ := hr1.at (T := tabOf Try.prog NT0) RIv_z hxi
        obtain ⟨va, vb, rfl, ha, hb, i1, i2⟩ := RIv_is.1 hc1
        have hxm : x ∈ xs := List.dropLast_subset _ (List.mem_filter.1 (List.mem_of_getElem? hxi)).1
        have a1 := ha.isSl
        have a2 := ha.lenD
        have a3 := ha.one
        have b3 := hb.one
        have hw := wrap_succ hlt (by omega)
        simp only [core, Nat.reduceAdd, Nat.reduceSub, Nat.reduceMul, Nat.reduceLT, Nat.reduceEqDiff, reduceCtorEq, Nat.reduceLeDiff, Int.reduceLE, Int.reduceLT, Int.reduceToNat, s3, s4, s5, s6, r1, r2, hn, g2, g3, g9, g44, g45, g46, hlt, hc, hld, hld0, a3, b3]
        obtain ⟨hp, hhp⟩ : ∃ hp, hp = h'.push (.cells [.lit (.int .i64 x.first), .lit (.int .i64 x.last), va, vb, .lit (.bool x.mayRw)] 65) := ⟨_, rfl⟩
        have E0 : Ext h'.n h' hp := hhp ▸ (Ext.refl _ _).push _ (Nat.le_refl _)
        have A0 : hp.at h'.n = some (.cells [.lit (.int .i64 x.first), .lit (.int .i64 x.last), va, vb, .lit (.bool x.mayRw)] 65) := hhp ▸ at_push_n h' _
        have L0 := ld_at (T := tabOf Try.prog NT0) A0
        have E1 : Ext h.n h hp := (e1.trans (e2.mono e1.1)).trans (E0.mono (by have := e1.1; have := e2.1; omega))
        have ho1 := ho.ext E1 (Nat.le_refl _)
        have hi1 := hi.ext E1 (Nat.le_refl _)
        have ha1 := ha.ext E0 (Nat.le_refl _)
        rw [← hhp]
        refine WB_for n (fun j t h'' => h'' = hp ∧ (List.range j).any (hitIv osds infos x) = false ∧ t.n = 81 ∧ t.get 2 = vo ∧ t.get 3 = vi ∧ t.get 9 = .lit (.int .i64 n) ∧ t.get 13 = .ptr h'.n 0 ∧ t.get 44 = r ∧ t.get 45 = .lit (.int .i64 (priorF les xs).length) ∧ t.get 46 = .lit (.int .i64 i) ∧ t.get 50 = .lit (.int .i64 n) ∧ t.get 51 = .lit (.int .i64 j)) ?_ ?_ _ _ ?_
        · rintro j t h'' hj hc ⟨rfl, hy, hn, g2, g3, g9, g13, g44, g45, g46, g50, g51⟩ ih2
          have hjo : j < osds.length := by omega
          have hji : j < infos.length := by omega
          have hld1 := ho1.int (T := tabOf Try.prog NT0) (e := 3) (by kernel_rfl) (by kernel_rfl) hjo
          obtain ⟨z, hz⟩ : ∃ z, infos[j]? = some z := ⟨_, List.getElem?_eq_getElem hji⟩
          obtain ⟨c, hc1, hldz, -⟩ := hi1.at (T := tabOf Try.prog NT0) RInfo_z hz
          obtain ⟨rfl, -⟩ := RInfo_is.1 hc1
          have hw1 := wrap_succ hj (by omega)
          have hhit : hitIv osds infos x j = (x.acting.contains (osds.getD j 0) && (decide (1 ≤ z.born) && decide (z.born ≤ x.first))) := by unfold hitIv; rw [hz]
          have hxs := hs x hxm
          simp only [core, Nat.reduceAdd, Nat.reduceSub, Nat.reduceMul, Nat.reduceLT, Nat.reduceEqDiff, reduceCtorEq, Nat.reduceLeDiff, Int.reduceLE, Int.reduceLT, Int.reduceToNat, s3, s4, s5, s6, hn, g2, g3, g9, g13, g44, g45, g46, g50, g51, hc, hjo, hji, L0, hld1, hldz]
          rw [WB_regionD [0, 1, 2, 3, 4, 5, 6, 7, 8, 9, 10, 11, 12, 13, 14, 15, 16, 17, 18, 19, 20, 21, 22, 23, 24] 69617315882342504804101212883742752951559476767705366475300803866637665991334530428114392492140396328039319757727468028807964334706002832009802523599388686843445082671274135810760253636608 (by kernel_rfl)]
          repeat ((with_reducible refine WDM_cons ?_; simp only [dw1]; try simp only [dw2, Nat.reduceAdd, Nat.reduceMul, Nat.reduceShiftRight, Nat.reduceMod, Nat.reduceEqDiff]); simp only [core, Nat.reduceAdd, Nat.reduceSub, Nat.reduceMul, Nat.reduceLT, Nat.reduceEqDiff, reduceCtorEq, Nat.reduceLeDiff, Int.reduceLE, Int.reduceLT, Int.reduceToNat, cored, s3, s4, s5, s6, a1, a2, hn, g2, g3, g9, g13, g44, g45, g46, g50, g51, hjo, hji, L0, hld1, hldz])
          refine (contains_x _ ha1 (by omega)).mono ?_
          rintro rr hh ⟨rfl, rfl⟩
          repeat ((with_reducible refine WDM_cons ?_; simp only [dw1]; try simp only [dw2, Nat.reduceAdd, Nat.reduceMul, Nat.reduceShiftRight, Nat.reduceMod, Nat.reduceEqDiff]); simp only [core, Nat.reduceAdd, Nat.reduceSub, Nat.reduceMul, Nat.reduceLT, Nat.reduceEqDiff, reduceCtorEq, Nat.reduceLeDiff, Int.reduceLE, Int.reduceLT, Int.reduceToNat, cored, s3, s4, s5, s6, a1, a2, hn, g2, g3, g9, g13, g44, g45, g46, g50, g51, hjo, hji, L0, hld1, hldz])
          refine WRegD_bool (fun hb => ?_) (fun hb => ?_)
          · repeat (first | simp only [core, Nat.reduceAdd, Nat.reduceSub, Nat.reduceMul, Nat.reduceLT, Nat.reduceEqDiff, reduceCtorEq, Nat.reduceLeDiff, Int.reduceLE, Int.reduceLT, Int.reduceToNat, cored, s3, s4, s5, s6, a1, a2, hn, g2, g3, g9, g13, g44, g45, g46, g50, g51, hjo, hji, L0, hld1, hldz, hb] | (with_reducible refine WDM_cons ?_; simp only [dw1]; try simp only [dw2, Nat.reduceAdd, Nat.reduceMul, Nat.reduceShiftRight, Nat.reduceMod, Nat.reduceEqDiff]))
            refine WRegD_if (fun hc1 => ?_) (fun hc1 => ?_)
            · repeat (first | simp only [core, Nat.reduceAdd, Nat.reduceSub, Nat.reduceMul, Nat.reduceLT, Nat.reduceEqDiff, reduceCtorEq, Nat.reduceLeDiff, Int.reduceLE, Int.reduceLT, Int.reduceToNat, cored, s3, s4, s5, s6, a1, a2, hn, g2, g3, g9, g13, g44, g45, g46, g50, g51, hjo, hji, L0, hld1, hldz, hb, hc1, hw, hw1] | (with_reducible refine WDM_cons ?_; simp only [dw1]; try simp only [dw2, Nat.reduceAdd, Nat.reduceMul, Nat.reduceShiftRight, Nat.reduceMod, Nat.reduceEqDiff]))
              refine ⟨fun hq => ?_, fun hq => ?_⟩
              · refine ih _ _ ⟨e2.trans (E0.mono e2.1), ?_, ?_⟩
                · rw [all_take hxi, hx, any_true hj (by rw [hhit, hb, hq]; simp [hc1])]
                  rfl
                · simp only [core, Nat.reduceAdd, Nat.reduceSub, Nat.reduceMul, Nat.reduceLT, Nat.reduceEqDiff, reduceCtorEq, Nat.reduceLeDiff, Int.reduceLE, Int.reduceLT, Int.reduceToNat, hn, g2, g3, g9, g13, g44, g45, g46, g50, g51]
              · refine ih2 _ _ ⟨rfl, ?_, ?_⟩
                · rw [any_range_succ, hy, hhit, hb, hq]; simp
                · simp only [core, Nat.reduceAdd, Nat.reduceSub, Nat.reduceMul, Nat.reduceLT, Nat.reduceEqDiff, reduceCtorEq, Nat.reduceLeDiff, Int.reduceLE, Int.reduceLT, Int.reduceToNat, hn, g2, g3, g9, g13, g44, g45, g46, g50, g51]
            · repeat (first | simp only [core, Nat.reduceAdd, Nat.reduceSub, Nat.reduceMul, Nat.reduceLT, Nat.reduceEqDiff, reduceCtorEq, Nat.reduceLeDiff, Int.reduceLE, Int.reduceLT, Int.reduceToNat, cored, s3, s4, s5, s6, a1, a2, hn, g2, g3, g9, g13, g44, g45, g46, g50, g51, hjo, hji, L0, hld1, hldz, hb, hc1, hw1] | (with_reducible refine WDM_cons ?_; simp only [dw1]; try simp only [dw2, Nat.reduceAdd, Nat.reduceMul, Nat.reduceShiftRight, Nat.reduceMod, Nat.reduceEqDiff]))
              refine ih2 _ _ ⟨rfl, ?_, ?_⟩
              · rw [any_range_succ, hy, hhit, hb]; simp [hc1]
              · simp only [core, Nat.reduceAdd, Nat.reduceSub, Nat.reduceMul, Nat.reduceLT, Nat.reduceEqDiff, reduceCtorEq, Nat.reduceLeDiff, Int.reduceLE, Int.reduceLT, Int.reduceToNat, hn, g2, g3, g9, g13, g44, g45, g46, g50, g51]
          · repeat (first | simp only [core, Nat.reduceAdd, Nat.reduceSub, Nat.reduceMul, Nat.reduceLT, Nat.reduceEqDiff, reduceCtorEq, Nat.reduceLeDiff, Int.reduceLE, Int.reduceLT, Int.reduceToNat, cored, s3, s4, s5, s6, a1, a2, hn, g2, g3, g9, g13, g44, g45, g46, g50, g51, hjo, hji, L0, hld1, hldz, hb, hw1] | (with_reducible refine WDM_cons ?_; simp only [dw1]; try simp only [dw2, Nat.reduceAdd, Nat.reduceMul, Nat.reduceShiftRight, Nat.reduceMod, Nat.reduceEqDiff]))
            refine ih2 _ _ ⟨rfl, ?_, ?_⟩
            · rw [any_range_succ, hy, hhit, hb]; simp
            · simp only [core, Nat.reduceAdd, Nat.reduceSub, Nat.reduceMul, Nat.reduceLT, Nat.reduceEqDiff, reduceCtorEq, Nat.reduceLeDiff, Int.reduceLE, Int.reduceLT, Int.reduceToNat, hn, g2, g3, g9, g13, g44, g45, g46, g50, g51]
        · rintro t h'' hc ⟨rfl, hy, hn, g2, g3, g9, g13, g44, g45, g46, g50, g51⟩
          simp only [core, Nat.reduceAdd, Nat.reduceSub, Nat.reduceMul, Nat.reduceLT, Nat.reduceEqDiff, reduceCtorEq, Nat.reduceLeDiff, Int.reduceLE, Int.reduceLT, Int.reduceToNat, hn, g2, g3, g9, g13, g44, g45, g46, g50, g51, hc]
          refine ⟨E1, ?_⟩
          rw [hE, all_false hxi hy]
        · simp only [core, Nat.reduceAdd, Nat.reduceSub, Nat.reduceMul, Nat.reduceLT, Nat.reduceEqDiff, reduceCtorEq, Nat.reduceLeDiff, Int.reduceLE, Int.reduceLT, Int.reduceToNat, hn, g2, g3, g9, g44, g45, g46]
          trivial
      · rintro t h' hc ⟨e2, hx, hn, g2, g3, g9, g44, g45, g46⟩
        simp only [core, Nat.reduceAdd, Nat.reduceSub, Nat.reduceMul, Nat.reduceLT, Nat.reduceEqDiff, reduceCtorEq, Nat.reduceLeDiff, Int.reduceLE, Int.reduceLT, Int.reduceToNat, hn, g2, g3, g9, g44, g45, g46, hc]
        refine ⟨e1.trans (e2.mono e1.1), ?_⟩
        rw [List.take_length] at hx
        rw [hE, hx]
      · simp only [core, Nat.reduceAdd, Nat.reduceSub, Nat.reduceMul, Nat.reduceLT, Nat.reduceEqDiff, reduceCtorEq, Nat.reduceLeDiff, Int.reduceLE, Int.reduceLT, Int.reduceToNat, hn, g0, g1, g2, g3, g9, g29, g30, g31]
        exact ⟨Ext.refl _ _, rfl⟩
    · simp only [core, Nat.reduceAdd, Nat.reduceSub, Nat.reduceMul, Nat.reduceLT, Nat.reduceEqDiff, reduceCtorEq, Nat.reduceLeDiff, Int.reduceLE, Int.reduceLT, Int.reduceToNat]
      trivial
end Go.Proofs.Ytkgbeihcepociaa.Ex
end

section

set_option linter.unusedSimpArgs false
set_option linter.unusedVariables false
set_option maxRecDepth 10000
set_option maxHeartbeats 4000000
namespace Go.Proofs.Ytkgbeihcepociaa.Ex
open Go
theorem enough15_x {F : Nat → Prop} {H : AH} {v vo vi : AV} {xs : List IvD} {osds : List Int} {infos : List InfoD} (les : Int) (hv : IsSl RIv F H v xs) (ho : IsSl RInt F H vo osds) (hi : IsSl RInfo F H vi infos)
    (hl : xs.length * 72 ≤ 140737488355328) (hs : ∀ x ∈ xs, x.acting.length * 8 ≤ 140737488355328 ∧ x.boots.length * 8 ≤ 140737488355328) (hol : osds.length * 8 ≤ 140737488355328) (hil : infos.length ≤ 140737488355328) :
    WC Try.prog (tabOf Try.prog NT0) S0 44 [v, .lit (.int .i64 les), vo, vi] H fun r h' => Ext H.n H h' ∧ r = .lit (.bool (enoughF xs les osds infos)) := by
  refine WC_fn Try.func44 rfl rfl ?_
  have s1 := hv.isSl
  have s2 := hv.lenD
  have s3 := ho.isSl
  have s4 := ho.lenD
  have s5 := hi.isSl
  have s6 := hi.lenD
  simp only [corem, WB_cond_s, put, ldL, WB_label, List.nil_append, List.drop_zero, List.take_zero, Nat.reduceAdd, Nat.reduceSub, Nat.reduceMul, Nat.reduceLT, Nat.reduceEqDiff, reduceCtorEq, Nat.reduceLeDiff, Int.reduceLE, Int.reduceLT, Int.reduceToNat, Try.ntmps44, s1, s2, s3, s4, s5, s6, -WB_cond_s]
  rw [WB_cond_s]
  simp only [corem, WB_cond_s, put, ldL, WB_label, List.nil_append, List.drop_zero, List.take_zero, Nat.reduceAdd, Nat.reduceSub, Nat.reduceMul, Nat.reduceLT, Nat.reduceEqDiff, reduceCtorEq, Nat.reduceLeDiff, Int.reduceLE, Int.reduceLT, Int.reduceToNat, Try.ntmps44, s1, s2, s3, s4, s5, s6, -WB_cond_s]
  refine ⟨fun he => ?_, fun he => ?_⟩
  · obtain rfl : xs = [] := List.eq_nil_of_length_eq_zero (by have := eq_of_beq he; omega)
    exact ⟨Ext.refl _ _, rfl⟩
  · have h0 : 0 < xs.length := by have := beq_eq_false_iff_ne.1 he; omega
    obtain ⟨y, hy⟩ : ∃ y, xs[xs.length - 1]? = some y := ⟨_, List.getElem?_eq_getElem (by omega)⟩
    have hlast : xs.getLast? = some y := by rw [List.getLast?_eq_getElem?]; exact hy
    obtain ⟨n, hn0⟩ : ∃ n, n = min osds.length infos.length := ⟨_, rfl⟩
    have hn1 : n ≤ osds.length := hn0 ▸ Nat.min_le_left _ _
    have hn2 : n ≤ infos.length := hn0 ▸ Nat.min_le_right _ _
    have hn3 : n = osds.length ∨ n = infos.length := by
      rcases Nat.le_total osds.length infos.length with h | h
      · exact .inl (by rw [hn0, Nat.min_eq_left h])
      · exact .inr (by rw [hn0, Nat.min_eq_right h])
    have hw0 : IntKind.i64.wrap ((xs.length : Int) - 1) = ((xs.length - 1 : Nat) : Int) := (wrap_in (by omega) (by omega)).trans (by omega)
    have hlt0 : xs.length - 1 < xs.length := by omega
    obtain ⟨c, hc1, hld, hld0⟩ := hv.at (T := tabOf Try.prog NT0) RIv_z hy
    obtain ⟨va, vb, rfl, ha, hb, i1, i2⟩ := RIv_is.1 hc1
    have a1 := ha.isSl
    have a2 := ha.lenD
    have hE : enoughF xs les osds infos = (y.acting.all (fun k => (osds.take n).contains k) && (priorF les xs).all (fun x => (List.range n).any (hitIv osds infos x))) := by
      unfold enoughF
      rw [hlast, ← hn0]
    have hya := hs y (List.mem_of_getElem? hy)
    have hno := hn1
    have hno2 : (n : Int) ≤ (osds.length : Int) := by omega
    have hcap : CapOk 1 vo := by obtain ⟨L, -, -, hc, -⟩ := ho.out; exact hc
    have hsub : IsSl RInt F H (subSl 1 0 n vo) (osds.take n) := by have := ho.sub (l := 0) (r := n) (by omega) hno; rw [List.drop_zero] at this; exact this
    refine WB_cut (fun t h => H = h ∧ t.n = 87 ∧ t.get 0 = v ∧ t.get 1 = .lit (.int .i64 les) ∧ t.get 2 = vo ∧ t.get 3 = vi ∧ t.get 9 = .lit (.int .i64 n)) (fun k' K' hk => ?_) ?_
    · rw [WB_cond_s]
      simp only [core, Nat.reduceAdd, Nat.reduceSub, Nat.reduceMul, Nat.reduceLT, Nat.reduceEqDiff, reduceCtorEq, Nat.reduceLeDiff, Int.reduceLE, Int.reduceLT, Int.reduceToNat, s1, s2, s3, s4, s5, s6]
      refine ⟨fun hq => hk _ _ ⟨rfl, ?_⟩, fun hq => hk _ _ ⟨rfl, ?_⟩⟩
      · have hq : infos.length < osds.length := by simpa using hq
        have : n = infos.length := by rcases hn3 with h | h <;> omega
        rw [this]
        simp only [core, Nat.reduceAdd, Nat.reduceSub, Nat.reduceMul, Nat.reduceLT, Nat.reduceEqDiff, reduceCtorEq, Nat.reduceLeDiff, Int.reduceLE, Int.reduceLT, Int.reduceToNat]
      · have hq : ¬ infos.length < osds.length := by simpa using hq
        have : n = osds.length := by rcases hn3 with h | h <;> omega
        rw [this]
        simp only [core, Nat.reduceAdd, Nat.reduceSub, Nat.reduceMul, Nat.reduceLT, Nat.reduceEqDiff, reduceCtorEq, Nat.reduceLeDiff, Int.reduceLE, Int.reduceLT, Int.reduceToNat]
    rintro t h ⟨rfl, hn, g0, g1, g2, g3, g9⟩
    simp only [core, Nat.reduceAdd, Nat.reduceSub, Nat.reduceMul, Nat.reduceLT, Nat.reduceEqDiff, reduceCtorEq, Nat.reduceLeDiff, Int.reduceLE, Int.reduceLT, Int.reduceToNat, s1, s2, s3, s4, s5, s6, hn, g0, g1, g2, g3, g9, hw0, hlt0, hld, hld0, a1, a2]
    refine WB_for y.acting.length (fun i t h => h = H ∧ (y.acting.take i).all (fun k => (osds.take n).contains k) = true ∧ t.n = 87 ∧ t.get 0 = v ∧ t.get 1 = .lit (.int .i64 les) ∧ t.get 2 = vo ∧ t.get 3 = vi ∧ t.get 9 = .lit (.int .i64 n) ∧ t.get 33 = va ∧ t.get 34 = .lit (.int .i64 y.acting.length) ∧ t.get 35 = .lit (.int .i64 i)) ?_ ?_ _ _ ?_
    · rintro i t h hlt hc ⟨rfl, hx, hn, g0, g1, g2, g3, g9, g33, g34, g35⟩ ih
      have hld := ha.int (T := tabOf Try.prog NT0) (e := 3) (by kernel_rfl) (by kernel_rfl) hlt
      have hw := wrap_succ hlt (by omega)
      have hgi : y.acting[i]? = some (y.acting.getD i 0) := by rw [List.getD_eq_getElem?_getD, List.getElem?_eq_getElem hlt]; rfl
      simp only [core, Nat.reduceAdd, Nat.reduceSub, Nat.reduceMul, Nat.reduceLT, Nat.reduceEqDiff, reduceCtorEq, Nat.reduceLeDiff, Int.reduceLE, Int.reduceLT, Int.reduceToNat, s1, s2, s3, s4, s5, s6, a1, a2, hn, g0, g1, g2, g3, g9, g33, g34, g35, hlt, hc, hld, hw, hcap, hno, hno2]
      refine (among15_x _ hsub (by rw [List.length_take]; omega)).mono ?_
      rintro r h' ⟨rfl, rfl⟩
      simp only [core, Nat.reduceAdd, Nat.reduceSub, Nat.reduceMul, Nat.reduceLT, Nat.reduceEqDiff, reduceCtorEq, Nat.reduceLeDiff, Int.reduceLE, Int.reduceLT, Int.reduceToNat, hn, g0, g1, g2, g3, g9, g33, g34, g35]
      refine ⟨fun hq => ?_, fun hq => ?_⟩
      · refine ⟨Ext.refl _ _, ?_⟩
        rw [hE, all_false hgi (by simpa using hq)]
        rfl
      · simp only [core, Nat.reduceAdd, Nat.reduceSub, Nat.reduceMul, Nat.reduceLT, Nat.reduceEqDiff, reduceCtorEq, Nat.reduceLeDiff, Int.reduceLE, Int.reduceLT, Int.reduceToNat, hn, g0, g1, g2, g3, g9, g33, g34, g35, hw]
        refine ih _ _ ⟨rfl, ?_, ?_⟩
        · rw [all_take hgi, hx]
          simpa using hq
        · simp only [core, Nat.reduceAdd, Nat.reduceSub, Nat.reduceMul, Nat.reduceLT, Nat.reduceEqDiff, reduceCtorEq, Nat.reduceLeDiff, Int.reduceLE, Int.reduceLT, Int.reduceToNat, hn, g0, g1, g2, g3, g9, g33, g34, g35]
    · rintro t h hc ⟨rfl, hx, hn, g0, g1, g2, g3, g9, g33, g34, g35⟩
      rw [List.take_length] at hx
      rw [hx, Bool.true_and] at hE
      simp only [core, Nat.reduceAdd, Nat.reduceSub, Nat.reduceMul, Nat.reduceLT, Nat.reduceEqDiff, reduceCtorEq, Nat.reduceLeDiff, Int.reduceLE, Int.reduceLT, Int.reduceToNat, s1, s2, s3, s4, s5, s6, a1, a2, hn, g0, g1, g2, g3, g9, g33, g34, g35, hc]
      refine (prior15_x les hv hl hs).mono ?_
      rintro r h1 ⟨e1, hr⟩
      have r1 := hr.isSl
      have r2 := hr.lenD
      have hpl : (priorF les xs).length ≤ xs.length := by
        have := List.length_filter_le (askF les) xs.dropLast
        rw [List.length_dropLast] at this
        exact Nat.le_trans this (by omega)
      simp only [core, Nat.reduceAdd, Nat.reduceSub, Nat.reduceMul, Nat.reduceLT, Nat.reduceEqDiff, reduceCtorEq, Nat.reduceLeDiff, Int.reduceLE, Int.reduceLT, Int.reduceToNat, s1, s2, s3, s4, s5, s6, a1, a2, hn, g0, g1, g2, g3, g9, g33, g34, g35, hc, r1, r2]
      refine WB_for (priorF les xs).length (fun i t h' => Ext h1.n h1 h' ∧ ((priorF les xs).take i).all (fun x => (List.range n).any (hitIv osds infos x)) = true ∧ t.n = 87 ∧ t.get 2 = vo ∧ t.get 3 = vi ∧ t.get 9 = .lit (.int .i64 n) ∧ t.get 48 = r ∧ t.get 49 = .lit (.int .i64 (priorF les xs).length) ∧ t.get 50 = .lit (.int .i64 i)) ?_ ?_ _ _ ?_
      · rintro i t h' hlt hc ⟨e2, hx, hn, g2, g3, g9, g48, g49, g50⟩ ih
        obtain ⟨x, hxi⟩ : ∃ x, (priorF les xs)[i]? = some x := ⟨_, List.getElem?_eq_getElem hlt⟩
        have hr1 := hr.ext e2 (Nat.le_refl _)
        obtain ⟨c, hc1, hld, hld0⟩ := hr1.at (T := tabOf Try.prog NT0) RIv_z hxi
        obtain ⟨va, vb, rfl, ha, hb, i1, i2⟩ := RIv_is.1 hc1
        have hxm : x ∈ xs := List.dropLast_subset _ (List.mem_filter.1 (List.mem_of_getElem? hxi)).1
        have a1 := ha.isSl
        have a2 := ha.lenD
        have a3 := ha.one
        have b3 := hb.one
        have hw := wrap_succ hlt (by omega)
        simp only [core, Nat.reduceAdd, Nat.reduceSub, Nat.reduceMul, Nat.reduceLT, Nat.reduceEqDiff, reduceCtorEq, Nat.reduceLeDiff, Int.reduceLE, Int.reduceLT, Int.reduceToNat, s3, s4, s5, s6, r1, r2, hn, g2, g3, g9, g48, g49, g50, hlt, hc, hld, hld0, a3, b3]
        obtain ⟨hp, hhp⟩ : ∃ hp, hp = h'.push (.cells [.lit (.int .i64 x.first), .lit (.int .i64 x.last), va, vb, .lit (.bool x.mayRw)] 65) := ⟨_, rfl⟩
        have E0 : Ext h'.n h' hp := hhp ▸ (Ext.refl _ _).push _ (Nat.le_refl _)
        have A0 : hp.at h'.n = some (.cells [.lit (.int .i64 x.first), .lit (.int .i64 x.last), va, vb, .lit (.bool x.mayRw)] 65) := hhp ▸ at_push_n h' _
        have L0 := ld_at (T := tabOf Try.prog NT0) A0
        have E1 : Ext h.n h hp := (e1.trans (e2.mono e1.1)).trans (E0.mono (by have := e1.1; have := e2.1; omega))
        have ho1 := ho.ext E1 (Nat.le_refl _)
        have hi1 := hi.ext E1 (Nat.le_refl _)
        have ha1 := ha.ext E0 (Nat.le_refl _)
        rw [← hhp]
        refine WB_for n (fun j t h'' => h'' = hp ∧ t.n = 87 ∧ t.get 2 = vo ∧ t.get 3 = vi ∧ t.get 9 = .lit (.int .i64 n) ∧ t.get 13 = .ptr h'.n 0 ∧ t.get 48 = r ∧ t.get 49 = .lit (.int .i64 (priorF les xs).length) ∧ t.get 50 = .lit (.int .i64 i) ∧ t.get 14 = .lit (.bool ((List.range j).any (hitIv osds infos x))) ∧ t.get 15 = .lit (.int .i64 j)) ?_ ?_ _ _ ?_
        · rintro j t h'' hj hc ⟨rfl, hn, g2, g3, g9, g13, g48, g49, g50, g14, g15⟩ ih2
          have hjo : j < osds.length := by omega
          have hji : j < infos.length := by omega
          have hld1 := ho1.int (T := tabOf Try.prog NT0) (e := 3) (by kernel_rfl) (by kernel_rfl) hjo
          obtain ⟨z, hz⟩ : ∃ z, infos[j]? = some z := ⟨_, List.getElem?_eq_getElem hji⟩
          obtain ⟨c, hc1, hldz, -⟩ := hi1.at (T := tabOf Try.prog NT0) RInfo_z hz
          obtain ⟨rfl, -⟩ := RInfo_is.1 hc1
          have hw1 := wrap_succ hj (by omega)
          have hhit : hitIv osds infos x j = (x.acting.contains (osds.getD j 0) && (decide (1 ≤ z.born) && decide (z.born ≤ x.first))) := by unfold hitIv; rw [hz]
          have hxs := hs x hxm
          simp only [core, Nat.reduceAdd, Nat.reduceSub, Nat.reduceMul, Nat.reduceLT, Nat.reduceEqDiff, reduceCtorEq, Nat.reduceLeDiff, Int.reduceLE, Int.reduceLT, Int.reduceToNat, s3, s4, s5, s6, hn, g2, g3, g9, g13, g48, g49, g50, g14, g15, hc, hjo, hji, L0, hld1, hldz]
          rw [WB_regionD [0, 1, 2, 3, 4, 5, 6, 7, 8, 9, 10, 11, 12, 13, 14, 15, 16, 17, 18, 19, 20, 21, 22, 23, 24] 69617315882342504804101212883742752951559476767705366475300803866637665991334530428114392492140396328039319757727468028807964334706002832009802523598878263277851868037792847500051981795328 (by kernel_rfl)]
          repeat ((with_reducible refine WDM_cons ?_; simp only [dw1]; try simp only [dw2, Nat.reduceAdd, Nat.reduceMul, Nat.reduceShiftRight, Nat.reduceMod, Nat.reduceEqDiff]); simp only [core, Nat.reduceAdd, Nat.reduceSub, Nat.reduceMul, Nat.reduceLT, Nat.reduceEqDiff, reduceCtorEq, Nat.reduceLeDiff, Int.reduceLE, Int.reduceLT, Int.reduceToNat, cored, s3, s4, s5, s6, a1, a2, hn, g2, g3, g9, g13, g48, g49, g50, g14, g15, hjo, hji, L0, hld1, hldz])
          refine (among15_x _ ha1 (by omega)).mono ?_
          rintro rr hh ⟨rfl, rfl⟩
          repeat ((with_reducible refine WDM_cons ?_; simp only [dw1]; try simp only [dw2, Nat.reduceAdd, Nat.reduceMul, Nat.reduceShiftRight, Nat.reduceMod, Nat.reduceEqDiff]); simp only [core, Nat.reduceAdd, Nat.reduceSub, Nat.reduceMul, Nat.reduceLT, Nat.reduceEqDiff, reduceCtorEq, Nat.reduceLeDiff, Int.reduceLE, Int.reduceLT, Int.reduceToNat, cored, s3, s4, s5, s6, a1, a2, hn, g2, g3, g9, g13, g48, g49, g50, g14, g15, hjo, hji, L0, hld1, hldz])
          refine WRegD_bool (fun hb => ?_) (fun hb => ?_)
          · repeat (first | simp only [core, Nat.reduceAdd, Nat.reduceSub, Nat.reduceMul, Nat.reduceLT, Nat.reduceEqDiff, reduceCtorEq, Nat.reduceLeDiff, Int.reduceLE, Int.reduceLT, Int.reduceToNat, cored, s3, s4, s5, s6, a1, a2, hn, g2, g3, g9, g13, g48, g49, g50, g14, g15, hjo, hji, L0, hld1, hldz, hb] | (with_reducible refine WDM_cons ?_; simp only [dw1]; try simp only [dw2, Nat.reduceAdd, Nat.reduceMul, Nat.reduceShiftRight, Nat.reduceMod, Nat.reduceEqDiff]))
            refine WRegD_if (fun hc1 => ?_) (fun hc1 => ?_)
            · repeat (first | simp only [core, Nat.reduceAdd, Nat.reduceSub, Nat.reduceMul, Nat.reduceLT, Nat.reduceEqDiff, reduceCtorEq, Nat.reduceLeDiff, Int.reduceLE, Int.reduceLT, Int.reduceToNat, cored, s3, s4, s5, s6, a1, a2, hn, g2, g3, g9, g13, g48, g49, g50, g14, g15, hjo, hji, L0, hld1, hldz, hb, hc1, hw, hw1] | (with_reducible refine WDM_cons ?_; simp only [dw1]; try simp only [dw2, Nat.reduceAdd, Nat.reduceMul, Nat.reduceShiftRight, Nat.reduceMod, Nat.reduceEqDiff]))
              refine ⟨fun hq => ?_, fun hq => ?_⟩
              · refine ih2 _ _ ⟨rfl, ?_⟩
                rw [any_range_succ, hhit, hb, hq, decide_eq_true hc1]
                simp only [core, Nat.reduceAdd, Nat.reduceSub, Nat.reduceMul, Nat.reduceLT, Nat.reduceEqDiff, reduceCtorEq, Nat.reduceLeDiff, Int.reduceLE, Int.reduceLT, Int.reduceToNat, hn, g2, g3, g9, g13, g48, g49, g50, g14, g15, Bool.or_true]
              · refine ih2 _ _ ⟨rfl, ?_⟩
                rw [any_range_succ, hhit, hb, hq]
                simp only [core, Nat.reduceAdd, Nat.reduceSub, Nat.reduceMul, Nat.reduceLT, Nat.reduceEqDiff, reduceCtorEq, Nat.reduceLeDiff, Int.reduceLE, Int.reduceLT, Int.reduceToNat, hn, g2, g3, g9, g13, g48, g49, g50, g14, g15, Bool.or_false]
            · repeat (first | simp only [core, Nat.reduceAdd, Nat.reduceSub, Nat.reduceMul, Nat.reduceLT, Nat.reduceEqDiff, reduceCtorEq, Nat.reduceLeDiff, Int.reduceLE, Int.reduceLT, Int.reduceToNat, cored, s3, s4, s5, s6, a1, a2, hn, g2, g3, g9, g13, g48, g49, g50, g14, g15, hjo, hji, L0, hld1, hldz, hb, hc1, hw1] | (with_reducible refine WDM_cons ?_; simp only [dw1]; try simp only [dw2, Nat.reduceAdd, Nat.reduceMul, Nat.reduceShiftRight, Nat.reduceMod, Nat.reduceEqDiff]))
              refine ih2 _ _ ⟨rfl, ?_⟩
              rw [any_range_succ, hhit, hb, decide_eq_false hc1]
              simp only [core, Nat.reduceAdd, Nat.reduceSub, Nat.reduceMul, Nat.reduceLT, Nat.reduceEqDiff, reduceCtorEq, Nat.reduceLeDiff, Int.reduceLE, Int.reduceLT, Int.reduceToNat, hn, g2, g3, g9, g13, g48, g49, g50, g14, g15, Bool.or_false]
          · repeat (first | simp only [core, Nat.reduceAdd, Nat.reduceSub, Nat.reduceMul, Nat.reduceLT, Nat.reduceEqDiff, reduceCtorEq, Nat.reduceLeDiff, Int.reduceLE, Int.reduceLT, Int.reduceToNat, cored, s3, s4, s5, s6, a1, a2, hn, g2, g3, g9, g13, g48, g49, g50, g14, g15, hjo, hji, L0, hld1, hldz, hb, hw1] | (with_reducible refine WDM_cons ?_; simp only [dw1]; try simp only [dw2, Nat.reduceAdd, Nat.reduceMul, Nat.reduceShiftRight, Nat.reduceMod, Nat.reduceEqDiff]))
            refine ih2 _ _ ⟨rfl, ?_⟩
            rw [any_range_succ, hhit, hb]
            simp only [core, Nat.reduceAdd, Nat.reduceSub, Nat.reduceMul, Nat.reduceLT, Nat.reduceEqDiff, reduceCtorEq, Nat.reduceLeDiff, Int.reduceLE, Int.reduceLT, Int.reduceToNat, hn, g2, g3, g9, g13, g48, g49, g50, g14, g15, Bool.or_false]
        · rintro t h'' hc ⟨rfl, hn, g2, g3, g9, g13, g48, g49, g50, g14, g15⟩
          simp only [core, Nat.reduceAdd, Nat.reduceSub, Nat.reduceMul, Nat.reduceLT, Nat.reduceEqDiff, reduceCtorEq, Nat.reduceLeDiff, Int.reduceLE, Int.reduceLT, Int.reduceToNat, hn, g2, g3, g9, g13, g48, g49, g50, g14, g15, hc, hw]
          refine ⟨fun hq => ?_, fun hq => ?_⟩
          · refine ⟨E1, ?_⟩
            rw [hE, all_false hxi (by simpa using hq)]
          · refine ih _ _ ⟨e2.trans (E0.mono e2.1), ?_, ?_⟩
            · rw [all_take hxi, hx]
              simpa using hq
            · simp only [core, Nat.reduceAdd, Nat.reduceSub, Nat.reduceMul, Nat.reduceLT, Nat.reduceEqDiff, reduceCtorEq, Nat.reduceLeDiff, Int.reduceLE, Int.reduceLT, Int.reduceToNat, hn, g2, g3, g9, g13, g48, g49, g50, g14, g15]
        · simp only [core, Nat.reduceAdd, Nat.reduceSub, Nat.reduceMul, Nat.reduceLT, Nat.reduceEqDiff, reduceCtorEq, Nat.reduceLeDiff, Int.reduceLE, Int.reduceLT, Int.reduceToNat, hn, g2, g3, g9, g48, g49, g50]
          trivial
      · rintro t h' hc ⟨e2, hx, hn, g2, g3, g9, g48, g49, g50⟩
        simp only [core, Nat.reduceAdd, Nat.reduceSub, Nat.reduceMul, Nat.reduceLT, Nat.reduceEqDiff, reduceCtorEq, Nat.reduceLeDiff, Int.reduceLE, Int.reduceLT, Int.reduceToNat, hn, g2, g3, g9, g48, g49, g50, hc]
        refine ⟨e1.trans (e2.mono e1.1), ?_⟩
        rw [List.take_length] at hx
        rw [hE, hx]
      · simp only [core, Nat.reduceAdd, Nat.reduceSub, Nat.reduceMul, Nat.reduceLT, Nat.reduceEqDiff, reduceCtorEq, Nat.reduceLeDiff, Int.reduceLE, Int.reduceLT, Int.reduceToNat, hn, g0, g1, g2, g3, g9, g33, g34, g35]
        exact ⟨Ext.refl _ _, rfl⟩
    · simp only [core, Nat.reduceAdd, Nat.reduceSub, Nat.reduceMul, Nat.reduceLT, Nat.reduceEqDiff, reduceCtorEq, Nat.reduceLeDiff, Int.reduceLE, Int.reduceLT, Int.reduceToNat, hn, g0, g1, g2, g3, g9]
      trivial
end Go.Proofs.Ytkgbeihcepociaa.Ex
end

section

set_option linter.unusedSimpArgs false
set_option linter.unusedVariables false
namespace Go.Proofs.Ytkgbeihcepociaa.Ex
open Go Go.RowKit Go.ChangeShapes Go.WideShapes Go.ChangeAt
theorem rels_absV {ρ : Nat → Value} {w : World} : ∀ {cs : List Value}, (∀ c ∈ cs, c.oneCell' = true) → rels ρ (mu0 w) w (cs.map (absV w)) cs
  | [], _ => rels_nil
  | c :: r, h => rels_cons (absV_rel (h c (by simp))) (rels_absV fun x hx => h x (by simp [hx]))
theorem law_join {W : World} {f : FuncId} {vs : List Value} {avs : List AV} (ha : rels (fun _ => default) (mu0 W) W avs vs) (hw : WC Try.prog (tabOf Try.prog NT0) S0 f avs (absH W) fun v h' => v = .lit (.bool true)) :
    Calls Try.prog f vs.toArray W fun e w' => e = .returned (.bool true) ∧ Below W.heap.size W w' := by
  obtain ⟨n, o, h1, hex, v, cm, rfl, rfl⟩ := hw
  refine (ex_callsH tab_sound noNG follows_mixed (sums_ok _ _) (absH_hr W) (absH_nw W) hex ha).mono fun e w' hy => ?_
  obtain ⟨v', μ', rfl, hb, hv⟩ := hy
  exact ⟨by rw [rel_bool_inv hv], hb⟩
theorem open_agg {P : Program} {H : Type} {enc : TypeId × Value → H} {W : World} {base : Nat} {t : TypeId} {v0 : Value} {d0 : DataW H} {p0 : List MemPlace} {d : TypeDesc} {α : Type} {R : Rep α} {B : α → Prop} (hO : OpensA enc P W t R B) (hu : P.underlying t = some d) (hd : isAggD d = true)
    (k0 : Value.okWide P W .any base t v0) (h0 : DataW.Trod enc P W 0 (fun _ => true) true t v0 d0 p0) (hw : ∀ n ∈ d0.weights P t, n ≤ reachBytes) :
    ∃ (cs : List AV) (y : α), rel (fun _ => default) (mu0 W) W (.agg cs) v0 ∧ R.is (InH W) (absH W) cs y ∧ B y := by
  obtain ⟨cs, rfl, h1, h2⟩ := okWide_agg hu hd k0
  obtain ⟨fuel, hf⟩ := h0
  obtain ⟨h3, h4, y, h5, h6⟩ := hO.2 fuel cs.toList _ hf (List.all_eq_true.2 fun n hn => (by simpa using hw n hn))
  refine ⟨_, y, ?_, h5, h6⟩
  unfold rel
  exact ⟨cs.toList, by simp, rels_absV h4⟩
end Go.Proofs.Ytkgbeihcepociaa.Ex
end

section

set_option linter.unusedSimpArgs false
set_option linter.unusedVariables false
namespace Go.Proofs.Ytkgbeihcepociaa.Ex
open Go Go.RowKit Go.ChangeShapes Go.WideShapes Go.ChangeAt
theorem open_sl {P : Program} {H : Type} {enc : TypeId × Value → H} {W : World} {base : Nat} {t e : TypeId} {v0 : Value} {d0 : DataW H} {p0 : List MemPlace} {α : Type} {R : Rep α} {B : List α → Prop} (hO : OpensA enc P W t (RSl R) B) (hu : P.underlying t = some (.slice e))
    (k0 : Value.okWide P W .any base t v0) (h0 : DataW.Trod enc P W 0 (fun _ => true) true t v0 d0 p0) (hw : ∀ n ∈ d0.weights P t, n ≤ reachBytes) :
    ∃ (v : AV) (ys : List α), rel (fun _ => default) (mu0 W) W v v0 ∧ IsSl R (InH W) (absH W) v ys ∧ B ys := by
  obtain ⟨a, len, cap, rfl⟩ := okWide_slice hu k0
  obtain ⟨fuel, hf⟩ := h0
  obtain ⟨h3, h4, y, h5, h6⟩ := hO.2 fuel [Value.slice a len cap] _ hf (List.all_eq_true.2 fun n hn => (by simpa using hw n hn))
  obtain ⟨v', e', h5⟩ := RSl_is.1 h5
  cases e'
  exact ⟨_, y, absV_rel (h4 _ (by simp)), h5, h6⟩
end Go.Proofs.Ytkgbeihcepociaa.Ex
end

section

set_option linter.unusedSimpArgs false
set_option linter.unusedVariables false
set_option maxRecDepth 10000
set_option maxHeartbeats 4000000
namespace Go.Proofs.Ytkgbeihcepociaa.Ex
open Go Go.RowKit Go.ChangeShapes Go.WideShapes Go.ChangeAt
theorem opensA_Ans {H : Type} {enc : TypeId × Value → H} {W : World} : OpensA enc Try.prog W 78 (RMap (fun x : Int × List Int × List InfoD => x) (RPair RInt (RPair (RSl RInt) (RSl RInfo)))) (fun x => x.2.1.length * 8 ≤ 140737488351232 ∧ Sm 48 x.2.2) :=
  opensA_struct (ts := [3, 63, 76]) (fun x : Int × List Int × List InfoD => x) (fun y => y) (fun y => rfl) Try.underlying78 (by rfl) (by kernel_rfl) (by kernel_rfl)
    (opensL_cons (opensA_int Try.underlying3 (by kernel_rfl)) (opensL_cons opensA_ints (opensL_one opensA_Infos))) (fun y h => ⟨h.2.1.1, h.2.2.1⟩)
theorem intervalEnough_m {F : Nat → Prop} {H : AH} {v vo vi : AV} {xs : List IvD} {osds : List Int} {infos : List InfoD} (les : Int) (hv : IsSl RIv F H v xs) (ho : IsSl RInt F H vo osds) (hi : IsSl RInfo F H vi infos)
    (hl : Sm 72 xs ∧ ∀ x ∈ xs, OkIv x) (hol : osds.length * 8 ≤ 140737488351232) (hil : Sm 48 infos) :
    WC Try.prog (tabOf Try.prog NT0) S0 11 [v, .agg [.lit (.int .i64 les), vo, vi]] H fun r h' => r = .lit (.bool true) := by
  refine WC_fn Try.func11 rfl rfl ?_
  have s1 := hv.isSl
  have s3 := ho.isSl
  have s5 := hi.isSl
  have o3 := ho.one
  have o5 := hi.one
  have hl1 : xs.length * 72 ≤ 140737488355328 := by have := hl.1; unfold Sm at this; omega
  have hs : ∀ x ∈ xs, x.acting.length * 8 ≤ 140737488355328 ∧ x.boots.length * 8 ≤ 140737488355328 := fun x hx => by
    have := hl.2 x hx
    unfold OkIv Sm at this
    omega
  unfold Sm at hil
  simp only [core, Nat.reduceAdd, Nat.reduceSub, Nat.reduceMul, Nat.reduceLT, Nat.reduceEqDiff, reduceCtorEq, Nat.reduceLeDiff, Int.reduceLE, Int.reduceLT, Int.reduceToNat, Try.ntmps11, s1, s3, s5, o3, o5]
  obtain ⟨h1, hh1⟩ : ∃ h1, h1 = H.push (.cells [.lit (.int .i64 les), vo, vi] 78) := ⟨_, rfl⟩
  have E1 : Ext H.n H h1 := hh1 ▸ (Ext.refl _ _).push _ (Nat.le_refl _)
  have P1 : h1.at H.n = some (.cells [.lit (.int .i64 les), vo, vi] 78) := hh1 ▸ at_push_n _ _
  rw [← hh1]
  clear hh1
  have lp1 := at_lt P1
  have LP1 := ld_at (T := tabOf Try.prog NT0) P1
  rw [WB_regionD [0, 1, 2, 3, 4, 5, 6, 7, 8] 1204932154128817075520000 (by kernel_rfl)]
  repeat ((with_reducible refine WDM_cons ?_; simp only [dw1]; try simp only [dw2, Nat.reduceAdd, Nat.reduceMul, Nat.reduceShiftRight, Nat.reduceMod, Nat.reduceEqDiff]); simp only [core, Nat.reduceAdd, Nat.reduceSub, Nat.reduceMul, Nat.reduceLT, Nat.reduceEqDiff, reduceCtorEq, Nat.reduceLeDiff, Int.reduceLE, Int.reduceLT, Int.reduceToNat, cored, LP1, lp1, s1, s3, s5])
  refine (enough_x les (hv.ext E1 (Nat.le_refl _)) (ho.ext E1 (Nat.le_refl _)) (hi.ext E1 (Nat.le_refl _)) hl1 hs (by omega) (by omega)).mono ?_
  rintro _ h2 ⟨e2, rfl⟩
  have E2 := E1.step e2
  simp only [core, Nat.reduceAdd, Nat.reduceSub, Nat.reduceMul, Nat.reduceLT, Nat.reduceEqDiff, reduceCtorEq, Nat.reduceLeDiff, Int.reduceLE, Int.reduceLT, Int.reduceToNat, s1, s3, s5]
  refine (enough15_x les (hv.ext E2 (Nat.le_refl _)) (ho.ext E2 (Nat.le_refl _)) (hi.ext E2 (Nat.le_refl _)) hl1 hs (by omega) (by omega)).mono ?_
  rintro _ h3 ⟨e3, rfl⟩
  have hb : (enoughF xs les osds infos == enoughF xs les osds infos) = true := beq_self_eq_true _
  simp only [core, Nat.reduceAdd, Nat.reduceSub, Nat.reduceMul, Nat.reduceLT, Nat.reduceEqDiff, reduceCtorEq, Nat.reduceLeDiff, Int.reduceLE, Int.reduceLT, Int.reduceToNat, hb]
  refine lives15_x.mono ?_
  rintro _ h4 ⟨e4, rfl⟩
  simp only [core, Nat.reduceAdd, Nat.reduceSub, Nat.reduceMul, Nat.reduceLT, Nat.reduceEqDiff, reduceCtorEq, Nat.reduceLeDiff, Int.reduceLE, Int.reduceLT, Int.reduceToNat, hb]
end Go.Proofs.Ytkgbeihcepociaa.Ex
namespace Go.Proofs.Ytkgbeihcepociaa
open Go.RowKit Go.ChangeShapes Go.WideShapes Go.ChangeAt
set_option maxRecDepth 100000 in
theorem intervalEnough_walk {H : Type} {enc : TypeId × Value → H} {W : World} {base : Nat} {v0 v1 : Value} {d0 d1 : DataW H} {p0 p1 : List MemPlace}
    (k0 : Value.okWide Try.prog W .any base 59 v0) (h0 : DataW.Trod enc Try.prog W 0 (fun _ => true) true 59 v0 d0 p0)
    (k1 : Value.okWide Try.prog W .any base 78 v1) (h1 : DataW.Trod enc Try.prog W 0 (fun _ => true) true 78 v1 d1 p1)
    {ts : List TypeId} {ds : List (DataW H)} (hsz : (DataW.weightsEach Try.prog ([59, 78] ++ ts) ([d0, d1] ++ ds)).all (· ≤ reachBytes) = true) :
    Calls Try.prog 11 #[v0, v1] W fun e w' => e = .returned (.bool true) ∧ Below W.heap.size W w' := by
  obtain ⟨v, xs, r0, i0, ok0⟩ := Ex.open_sl Ex.opensA_Ivs Try.underlying59 k0 h0 (weights_le hsz (j := 0) rfl rfl)
  obtain ⟨c1, g, r1, i1, ok1⟩ := Ex.open_agg Ex.opensA_Ans Try.underlying78 rfl k1 h1 (weights_le hsz (j := 1) rfl rfl)
  obtain ⟨_, _, rfl, ⟨rfl, -⟩, _, _, rfl, q1, q2⟩ := i1
  obtain ⟨vo, rfl, q1⟩ := Ex.RSl_is.1 q1
  obtain ⟨vi, rfl, q2⟩ := Ex.RSl_is.1 q2
  exact Ex.law_join (Ex.rels_cons r0 (Ex.rels_cons r1 Ex.rels_nil)) (Ex.intervalEnough_m g.1 i0 q1 q2 ok0 ok1.1 ok1.2)
end Go.Proofs.Ytkgbeihcepociaa
end
