/- Part 12 of the proof: Ive, Ivc, Ivt, Ivu, Ivv, Ivx, Ivy, Ivl, Jn, Ivo, Ivk, Ivb. -/
import Derived.Test.YtkgbeihcepociaaM11
section

set_option linter.unusedSimpArgs false
set_option linter.unusedVariables false
set_option maxRecDepth 10000
set_option maxHeartbeats 4000000
namespace Go.Proofs.Ytkgbeihcepociaa.Ex
open Go
theorem OwnL.below {α : Type} {R : Rep α} {G : Nat → Prop} {n0 : Nat} {h h' : AH} {v : AV} {e : TypeId} {xs : List α} (ho : OwnL R G n0 h v e xs) (hG : ∀ b, G b → n0 ≤ b) (hk : ∀ b, n0 ≤ b → h'.at b = h.at b) : OwnL R G n0 h' v e xs := by
  refine ho.lift (fun b off n cap ev => ?_) (fun b hb _ _ => hk b (hG b hb))
  obtain ⟨L, h1, h2⟩ := ho
  rcases h1.2 with ⟨hh, _⟩ | ⟨p, hh, hp, hat⟩
  · rw [hh] at ev; cases ev
  · rw [hh] at ev
    cases ev
    exact hk _ hp
theorem ivs_take {pool seed : Int} {ms : List MapD} {i : Nat} {r : Nat × Nat} (hr : (runsF pool seed ms)[i]? = some r) : (ivsF pool seed ms).take (i + 1) = (ivsF pool seed ms).take i ++ [ivOf pool seed (cutF ms r)] := by
  unfold ivsF
  rw [List.take_add_one, List.getElem?_map, hr]
  rfl
/-- The loads of a slice's elements are as they were. -/
theorem IsSl.ldE {α : Type} {R : Rep α} {T : TT} {F : Nat → Prop} {H h : AH} {v : AV} {xs : List α} (hs : IsSl R F H v xs) (h0 : 0 < xs.length) (he : Ext H.n H h) : ∀ e off, loadA T h e (slB v) off = loadA T H e (slB v) off := fun e off => by
  obtain ⟨L, h1, _, _, h3⟩ := hs.out
  rcases h1.2 with ⟨rfl, rfl⟩ | ⟨b, o, cap, row, rfl, h4, h5⟩
  · have := h3.1
    simp at this
    omega
  · have := he.2 b (getR_lt h4)
    simp only [slB, loadA, getR, this]
def pgB (pool seed : Int) : AB := .cells [.lit (.int .i64 pool), .lit (.int .i64 seed)] 56
/-- What of a map of an argument is known. -/
theorem i64_epoch {F : Nat → Prop} {H : AH} {v : AV} {ms : List MapD} (hv : IsSl RMp F H v ms) {x : MapD} (hx : x ∈ ms) : I64 x.epoch := by
  obtain ⟨i, hi⟩ := List.mem_iff_getElem?.1 hx
  obtain ⟨c, hc1, -⟩ := hv.at (T := tabOf Try.prog NT0) RMp_z hi
  obtain ⟨vo, vp, vb, rfl, -, -, -, h1, -⟩ := RMp_is.1 hc1
  exact h1
theorem each_x {F : Nat → Prop} {H : AH} {v : AV} {ms : List MapD} (pool seed : Int) (hv : IsSl RMp F H v ms) (hl : Sm 88 ms) (hok : ∀ m ∈ ms, OkMp m) :
    WC Try.prog (tabOf Try.prog NT0) S0 37 [v, pgV pool seed] H fun r h' => r = .fn (.func 87) [] [.ptr (H.n + 1) 0] ∧ Ext H.n H h' ∧ ∃ s, h'.at (H.n + 1) = some (.cells [s] 59) ∧ IsSl RIv (fun b => H.n + 6 ≤ b) h' s (ivsF pool seed ms) := by
  refine WC_fn Try.func37 rfl rfl ?_
  have s1 := hv.isSl
  have s2 := hv.lenD
  have o1 := hv.one
  simp only [core, Nat.reduceAdd, Nat.reduceSub, Nat.reduceMul, Nat.reduceLT, Nat.reduceEqDiff, reduceCtorEq, Nat.reduceLeDiff, Int.reduceLE, Int.reduceLT, Int.reduceToNat, Try.ntmps37, pgV, s1, s2]
  refine (runs_x pool seed o1).mono ?_
  rintro _ h2 ⟨rfl, rfl⟩
  simp only [core, Nat.reduceAdd, Nat.reduceSub, Nat.reduceMul, Nat.reduceLT, Nat.reduceEqDiff, reduceCtorEq, Nat.reduceLeDiff, Int.reduceLE, Int.reduceLT, Int.reduceToNat]
  generalize htt : TM.set _ 10 _ = tt
  have hn : tt.n = 45 := by rw [← htt]; simp only [core, Nat.reduceAdd, Nat.reduceSub, Nat.reduceMul, Nat.reduceLT, Nat.reduceEqDiff, reduceCtorEq, Nat.reduceLeDiff, Int.reduceLE, Int.reduceLT, Int.reduceToNat]
  have g3 : tt.get 3 = .ptr H.n 0 := by rw [← htt]; simp only [core, Nat.reduceAdd, Nat.reduceSub, Nat.reduceMul, Nat.reduceLT, Nat.reduceEqDiff, reduceCtorEq, Nat.reduceLeDiff, Int.reduceLE, Int.reduceLT, Int.reduceToNat]
  have g5 : tt.get 5 = .ptr (H.n + 1) 0 := by rw [← htt]; simp only [core, Nat.reduceAdd, Nat.reduceSub, Nat.reduceMul, Nat.reduceLT, Nat.reduceEqDiff, reduceCtorEq, Nat.reduceLeDiff, Int.reduceLE, Int.reduceLT, Int.reduceToNat]
  have g10 : tt.get 10 = .fn (.func 125) [] [.ptr (H.n + 2) 0, .ptr (H.n + 3) 0] := by rw [← htt]; simp only [core, Nat.reduceAdd, Nat.reduceSub, Nat.reduceMul, Nat.reduceLT, Nat.reduceEqDiff, reduceCtorEq, Nat.reduceLeDiff, Int.reduceLE, Int.reduceLT, Int.reduceToNat]
  clear htt
  generalize hh2 : AH.push (AH.push _ (.cells [v] _)) _ = h2
  have E2 : Ext H.n H h2 := hh2 ▸ ((((Ext.refl _ _).push _ (Nat.le_refl _)).push _ (by rw [n_push]; omega)).push _ (by rw [n_push, n_push]; omega)).push _ (by rw [n_push, n_push, n_push]; omega)
  have n2 : h2.n = H.n + 4 := by rw [← hh2, n_push, n_push, n_push, n_push]
  have P2 : h2.at (H.n + 3) = some (pgB pool seed) := hh2 ▸ at_push_n _ _
  have M2 : h2.at (H.n + 2) = some (.cells [v] 33) := hh2 ▸ (at_push_lt _ (by rw [n_push, n_push, n_push]; omega)).trans (at_push_n _ _)
  have F2 : h2.at (H.n + 1) = some (.cells [.lit (.slice none 0 0)] 59) := hh2 ▸ (at_push_lt _ (by rw [n_push, n_push, n_push]; omega)).trans ((at_push_lt _ (by rw [n_push, n_push]; omega)).trans (at_push_n _ _))
  have Q2 : h2.at H.n = some (pgB pool seed) := hh2 ▸ (at_push_lt _ (by rw [n_push, n_push, n_push]; omega)).trans ((at_push_lt _ (by rw [n_push, n_push]; omega)).trans ((at_push_lt _ (by rw [n_push]; omega)).trans (at_push_n _ _)))
  clear hh2
  refine WB_rangeW rfl (fv := .fn (.func 125) [] [.ptr (H.n + 2) 0, .ptr (H.n + 3) 0]) (by simp only [core, Nat.reduceAdd, Nat.reduceSub, Nat.reduceMul, Nat.reduceLT, Nat.reduceEqDiff, reduceCtorEq, Nat.reduceLeDiff, Int.reduceLE, Int.reduceLT, Int.reduceToNat, g10]) rfl fun LO hLO => ?_
  refine (run1_x pool seed hv hl hok (l := h2.n + 1) (bm := H.n + 2) (bp := H.n + 3)
    (fun i h => Ext H.n H h ∧ h.at (H.n + 2) = some (.cells [v] 33) ∧ h.at (H.n + 3) = some (pgB pool seed) ∧ h.at H.n = some (pgB pool seed) ∧ (∃ s, h.at (H.n + 1) = some (.cells [s] 59) ∧ OwnL RIv (fun b => H.n + 6 ≤ b) (H.n + 6) h s 65 ((ivsF pool seed ms).take i)) ∧ h.at (H.n + 5) = some (.loop LO) ∧ h.at (H.n + 4) = some .defd)
    (fun _ => False) (fun i h j => ⟨j.1, j.2.1, j.2.2.1⟩) (fun i h h' ⟨j1, j2, j3, j4, ⟨s, j5, j6⟩, j7, j8⟩ e => ⟨j1.step e, (e.2 _ (at_lt j2)).trans j2, (e.2 _ (at_lt j3)).trans j3, (e.2 _ (at_lt j4)).trans j4, ⟨s, (e.2 _ (at_lt j5)).trans j5, j6.ext e (Nat.le_refl _)⟩, (e.2 _ (at_lt j7)).trans j7, (e.2 _ (at_lt j8)).trans j8⟩) ?_ ?_).mono ?_
  · rintro i r h hri ⟨j1, j2, j3, j4, ⟨s, j5, j6⟩, j7, j8⟩
    have hrun := runsF_run r (List.mem_of_getElem? hri)
    have hlt := hrun.lt
    have hsub : IsSl RMp F H (subSl 5 r.1 r.2 v) (cutF ms r) := hv.sub (Nat.le_of_lt hlt) hrun.le
    have c1 := hsub.isSl
    have c2 := hsub.lenD
    have hcl := cut_len (ms := ms) hrun.le
    have hrl := hrun.cut
    have htk := ivs_take hri
    have hokc : ∀ m ∈ cutF ms r, OkMp m := fun m hm => hok m (List.mem_of_mem_take (List.mem_of_mem_drop hm))
    have hlc : Sm 88 (cutF ms r) := by
      unfold Sm at hl ⊢
      have := hrun.le
      omega
    have hil : ((ivsF pool seed ms).take i).length + 1 ≤ ms.length := by
      have h1 := ivsF_len (pool := pool) (seed := seed) (ms := ms)
      have h2 := congrArg List.length htk
      rw [List.length_append, List.length_take] at h2
      have h3 : [ivOf pool seed (cutF ms r)].length = 1 := rfl
      omega
    generalize hcs : cutF ms r = cs at hsub c2 hcl hrl htk hokc hlc
    obtain ⟨x, hx⟩ : ∃ x, cs[0]? = some x := ⟨_, List.getElem?_eq_getElem (by omega)⟩
    obtain ⟨y, hy⟩ : ∃ y, cs[cs.length - 1]? = some y := ⟨_, List.getElem?_eq_getElem (by omega)⟩
    have hx0 : cs.getD 0 map0 = x := by rw [List.getD_eq_getElem?_getD, hx]; rfl
    have hy0 : cs.getD (cs.length - 1) map0 = y := by rw [List.getD_eq_getElem?_getD, hy]; rfl
    have hcl0 : 0 < cs.length := by omega
    have hcl1 : cs.length - 1 < cs.length := by omega
    have hw0 : IntKind.i64.wrap ((cs.length : Int) - 1) = ((cs.length - 1 : Nat) : Int) := (wrap_in (by omega) (by unfold Sm at hlc; omega)).trans (by omega)
    generalize subSl 5 r.1 r.2 v = w at hsub c1 c2
    have ex := i64_epoch hsub (List.mem_of_getElem? hx)
    have ey := i64_epoch hsub (List.mem_of_getElem? hy)
    have cw := hsub.one
    rw [n2]
    refine WR_round hLO j7 rfl ?_
    simp only [core, Nat.reduceAdd, Nat.reduceSub, Nat.reduceMul, Nat.reduceLT, Nat.reduceEqDiff, reduceCtorEq, Nat.reduceLeDiff, Int.reduceLE, Int.reduceLT, Int.reduceToNat, sp_cons, sp_nil, g3, g5, hn]
    refine WB_beginL hLO rfl j7 ?_
    obtain ⟨hb, hhb⟩ : ∃ hb, hb = h.put (H.n + 5) (.loop (busyL LO)) := ⟨_, rfl⟩
    have EB : Ext H.n H hb := hhb ▸ j1.put _ (by omega)
    have b2 : hb.at (H.n + 2) = some (.cells [v] 33) := hhb ▸ (at_put_ne _ (by omega)).trans j2
    have b3 : hb.at (H.n + 3) = some (pgB pool seed) := hhb ▸ (at_put_ne _ (by omega)).trans j3
    have b4 : hb.at H.n = some (pgB pool seed) := hhb ▸ (at_put_ne _ (by omega)).trans j4
    have b5 : hb.at (H.n + 1) = some (.cells [s] 59) := hhb ▸ (at_put_ne _ (by omega)).trans j5
    have b6 : OwnL RIv (fun b => H.n + 6 ≤ b) (H.n + 6) hb s 65 ((ivsF pool seed ms).take i) := hhb ▸ j6.below (fun _ h => h) (fun b hb => at_put_ne _ (by omega))
    have b7 : hb.at (H.n + 5) = some (.loop (busyL LO)) := hhb ▸ at_put_same _ (at_lt j7)
    have b8 : hb.at (H.n + 4) = some .defd := hhb ▸ (at_put_ne _ (by omega)).trans j8
    rw [← hhb]
    clear hhb
    have lb4 := at_lt b4
    have lb5 := at_lt b5
    have hnb : H.n + 6 ≤ hb.n := by have := at_lt b7; omega
    have LB4 := ld_at (T := tabOf Try.prog NT0) b4
    unfold pgB at LB4
    obtain ⟨c, hc1, hld, hld0⟩ := hsub.at (T := tabOf Try.prog NT0) RMp_z hx
    obtain ⟨vo, vp, vb, rfl, m1, m2, m3, -⟩ := RMp_is.1 hc1
    have hld' := fun e n j a b c => (hld e n j a b c)
    simp only [Nat.zero_mul, Nat.add_zero] at hld'
    have hld0' := fun e n a b c => (hld0 e n a b c)
    simp only [Nat.zero_mul, Nat.add_zero] at hld0'
    obtain ⟨c, hc1y, hldy, hldy0⟩ := hsub.at (T := tabOf Try.prog NT0) RMp_z hy
    have ldB := hsub.ldE (T := tabOf Try.prog NT0) hcl0 EB
    have ldP := fun X => hsub.ldE (T := tabOf Try.prog NT0) hcl0 (EB.push X EB.1)
    obtain ⟨vo', vp', vb', rfl, -⟩ := RMp_is.1 hc1y
    have i1 := m1.isSl
    have i2 := m2.isSl
    have i3 := m3.isSl
    have p1 := m1.one
    have p2 := m2.one
    have p3 := m3.one
    simp only [core, Nat.reduceAdd, Nat.reduceSub, Nat.reduceMul, Nat.reduceLT, Nat.reduceEqDiff, reduceCtorEq, Nat.reduceLeDiff, Int.reduceLE, Int.reduceLT, Int.reduceToNat, g3, g5, hn]
    rw [WB_regionD [0, 1, 2, 3, 4, 5, 6, 7, 8, 9, 10, 11, 12, 13, 14, 16, 17, 18, 19, 22, 15, 20, 21, 23] 123665185994511654907818808153546979569531333209920123054873838942764538423013361282423622794148255919933035931143133856369881834984212847893134840377299613681830775467540480 (by kernel_rfl)]
    repeat ((with_reducible refine WDM_cons ?_; simp only [dw1]; try simp only [dw2, Nat.reduceAdd, Nat.reduceMul, Nat.reduceShiftRight, Nat.reduceMod, Nat.reduceEqDiff]); simp only [core, Nat.reduceAdd, Nat.reduceSub, Nat.reduceMul, Nat.reduceLT, Nat.reduceEqDiff, reduceCtorEq, Nat.reduceLeDiff, Int.reduceLE, Int.reduceLT, Int.reduceToNat, cored, g3, g5, hn, c1, c2, hcl0, hcl1, hw0, ldB, ldP, hld', hld0', hldy, hldy0, LB4, lb4, i1, i2, i3, p1, p2, p3])
    obtain ⟨hp, hhp⟩ : ∃ hp, hp = hb.push (.cells [.lit (.int .i64 0), .lit (.int .i64 0), .lit (.slice none 0 0), .lit (.slice none 0 0), .lit (.bool false)] 65) := ⟨_, rfl⟩
    have e1 : Ext hb.n hb hp := hhp ▸ (Ext.refl _ _).push _ (Nat.le_refl _)
    have X1 : hp.at hb.n = some (.cells [.lit (.int .i64 0), .lit (.int .i64 0), .lit (.slice none 0 0), .lit (.slice none 0 0), .lit (.bool false)] 65) := hhp ▸ at_push_n _ _
    have nx1 := at_lt X1
    have E1 := EB.step e1
    rw [← hhp]
    clear hhp
    have mx := MpAt.mk (m := x) m1 m2 m3
    have okx := hokc x (List.mem_of_getElem? hx)
    refine (act_x pool seed (mx.ext E1 (Nat.le_refl _)) okx.okM okx.1.1 okx.2.1.1).mono ?_
    rintro va h3 ⟨e3, hva⟩
    have E3 := E1.step e3
    have eb3 := e1.step e3
    have Q3 := (eb3.2 _ lb4).trans b4
    have LQ3 := ld_at (T := tabOf Try.prog NT0) Q3
    unfold pgB at LQ3
    have lq3 := at_lt Q3
    have ld3 := hsub.ldE (T := tabOf Try.prog NT0) hcl0 E3
    have v1 := hva.isSl
    have v2 := hva.one
    repeat ((with_reducible refine WDM_cons ?_; simp only [dw1]; try simp only [dw2, Nat.reduceAdd, Nat.reduceMul, Nat.reduceShiftRight, Nat.reduceMod, Nat.reduceEqDiff]); simp only [core, Nat.reduceAdd, Nat.reduceSub, Nat.reduceMul, Nat.reduceLT, Nat.reduceEqDiff, reduceCtorEq, Nat.reduceLeDiff, Int.reduceLE, Int.reduceLT, Int.reduceToNat, cored, g3, g5, hn, c1, c2, hcl0, hcl1, hw0, ld3, hld', hld0', hldy, hldy0, LQ3, lq3, i1, i2, i3, p1, p2, p3, v1, v2])
    refine (boots_x pool seed (mx.ext E3 (Nat.le_refl _)) okx.okM okx.1.1 okx.2.1.1).mono ?_
    rintro vb1 h4 ⟨e4, hvb⟩
    have E4 := E3.step e4
    have eb4 := eb3.step e4
    have X4 := (e4.2 _ (by have := e3.1; omega)).trans ((e3.2 _ nx1).trans X1)
    have nx4 := at_lt X4
    have w1 := hvb.isSl
    have w2 := hvb.one
    have Q4 := (e4.2 _ lq3).trans Q3
    have LQ4 := ld_at (T := tabOf Try.prog NT0) Q4
    unfold pgB at LQ4
    have lq4 := at_lt Q4
    have ld4 := hsub.ldE (T := tabOf Try.prog NT0) hcl0 E4
    repeat ((with_reducible refine WDM_cons ?_; simp only [dw1]; try simp only [dw2, Nat.reduceAdd, Nat.reduceMul, Nat.reduceShiftRight, Nat.reduceMod, Nat.reduceEqDiff]); simp only [core, Nat.reduceAdd, Nat.reduceSub, Nat.reduceMul, Nat.reduceLT, Nat.reduceEqDiff, reduceCtorEq, Nat.reduceLeDiff, Int.reduceLE, Int.reduceLT, Int.reduceToNat, cored, g3, g5, hn, c1, c2, hcl0, hcl1, hw0, ld4, hld', hld0', hldy, hldy0, LQ4, lq4, X4, nx4, i1, i2, i3, p1, p2, p3, v1, v2, w1, w2])
    obtain ⟨h5, hh5⟩ : ∃ h5, h5 = h4.put hb.n (.cells [.lit (.int .i64 x.epoch), .lit (.int .i64 y.epoch), va, vb1, .lit (.bool false)] 65) := ⟨_, rfl⟩
    have e5 : Ext hb.n hb h5 := hh5 ▸ eb4.put _ (Nat.le_refl _)
    have E5 := EB.step e5
    have X5 : h5.at hb.n = some (.cells [.lit (.int .i64 x.epoch), .lit (.int .i64 y.epoch), va, vb1, .lit (.bool false)] 65) := hh5 ▸ at_put_same _ nx4
    have q5 : ∀ b, b ≠ hb.n → h5.at b = h4.at b := fun b hb => hh5 ▸ at_put_ne _ (fun h => hb h.symm)
    have n5 : h5.n = h4.n := by rw [hh5, n_put]
    rw [← hh5]
    clear hh5
    have nx5 := at_lt X5
    have LX5 := ld_at (T := tabOf Try.prog NT0) X5
    have Q5 := (e5.2 _ lb4).trans b4
    have lq5 := at_lt Q5
    have LQ5 := ld_at (T := tabOf Try.prog NT0) Q5
    unfold pgB at LQ5
    have hn1 : hb.n + 1 ≤ hp.n := by have := nx1; omega
    have va5 : IsSl RInt (fun b => hp.n ≤ b) h5 va (actF x pool seed) := (hva.ext e4 (Nat.le_refl _)).lift fun b hb _ => ⟨q5 b (by omega), hb⟩
    have vb5 : IsSl RInt (fun b => hp.n ≤ b) h5 vb1 (bootF x (actF x pool seed)) := hvb.lift fun b hb _ => ⟨q5 b (by have := e3.1; omega), by have := e3.1; omega⟩
    have v5 := va5.isSl
    simp only [core, Nat.reduceAdd, Nat.reduceSub, Nat.reduceMul, Nat.reduceLT, Nat.reduceEqDiff, reduceCtorEq, Nat.reduceLeDiff, Int.reduceLE, Int.reduceLT, Int.reduceToNat, g3, g5, hn, LX5, nx5, LQ5, lq5, v5]
    refine (wrote_x pool seed (hsub.ext E5 (Nat.le_refl _)) hlc hokc hrl (va := va) (by rw [hx0]; exact va5)).mono ?_
    rintro _ h6 ⟨e6, rfl⟩
    rw [hx0]
    obtain ⟨wb, hwb⟩ : ∃ wb, wb = wroteF pool cs (actF x pool seed) := ⟨_, rfl⟩
    rw [← hwb]
    have X6 := (e6.2 _ nx5).trans X5
    have nx6 := at_lt X6
    have LX6 := ld_at (T := tabOf Try.prog NT0) X6
    simp only [core, Nat.reduceAdd, Nat.reduceSub, Nat.reduceMul, Nat.reduceLT, Nat.reduceEqDiff, reduceCtorEq, Nat.reduceLeDiff, Int.reduceLE, Int.reduceLT, Int.reduceToNat, g3, g5, hn, LX6, nx6, X6]
    obtain ⟨h7, hh7⟩ : ∃ h7, h7 = h6.put hb.n (.cells [.lit (.int .i64 x.epoch), .lit (.int .i64 y.epoch), va, vb1, .lit (.bool wb)] 65) := ⟨_, rfl⟩
    have e7 : Ext hb.n hb h7 := hh7 ▸ (e5.step e6).put _ (Nat.le_refl _)
    have E7 := EB.step e7
    have X7 : h7.at hb.n = some (.cells [.lit (.int .i64 x.epoch), .lit (.int .i64 y.epoch), va, vb1, .lit (.bool wb)] 65) := hh7 ▸ at_put_same _ nx6
    have n7 : h7.n = h6.n := by rw [hh7, n_put]
    have q7 : ∀ b, b ≠ hb.n → h7.at b = h6.at b := fun b hb => hh7 ▸ at_put_ne _ (fun h => hb h.symm)
    rw [← hh7]
    clear hh7
    have S7 := (e7.2 _ lb5).trans b5
    have ls7 := at_lt S7
    have LS7 := ld_at (T := tabOf Try.prog NT0) S7
    have nx7 := at_lt X7
    have LX7 := ld_at (T := tabOf Try.prog NT0) X7
    have so := b6.isSl
    have so1 := b6.one
    have v7 := va5.one
    have w7 := vb5.one
    simp only [core, Nat.reduceAdd, Nat.reduceSub, Nat.reduceMul, Nat.reduceLT, Nat.reduceEqDiff, reduceCtorEq, Nat.reduceLeDiff, Int.reduceLE, Int.reduceLT, Int.reduceToNat, g3, g5, hn, LS7, ls7, LX7, nx7, so, so1, v7, w7]
    obtain ⟨h8, hh8⟩ : ∃ h8, h8 = h7.push (.cells [.lit (.int .i64 x.epoch), .lit (.int .i64 y.epoch), va, vb1, .lit (.bool wb)] 65) := ⟨_, rfl⟩
    have e8 : Ext h7.n h7 h8 := hh8 ▸ (Ext.refl _ _).push _ (Nat.le_refl _)
    have X8 : h8.at h7.n = some (.cells [.lit (.int .i64 x.epoch), .lit (.int .i64 y.epoch), va, vb1, .lit (.bool wb)] 65) := hh8 ▸ at_push_n _ _
    rw [← hh8]
    clear hh8
    have eb8 : Ext hb.n hb h8 := e7.step e8
    have hiv : ivOf pool seed cs = ⟨x.epoch, y.epoch, actF x pool seed, bootF x (actF x pool seed), wb⟩ := by
      unfold ivOf
      rw [hx0, hy0, hwb]
    refine WOp_app ((b6.ext eb8 (Nat.le_refl _)).snoc (by kernel_rfl) (by kernel_rfl) (by kernel_rfl) (zv := .agg [.lit (.int .i64 0), .lit (.int .i64 0), .lit (.slice none 0 0), .lit (.slice none 0 0), .lit (.bool false)]) (by kernel_rfl) (by' := 72) (by kernel_rfl) rfl (by decide) (by decide) X8
      (y := ivOf pool seed cs) (RIv_is.2 ⟨va, vb1, by rw [hiv], ?_, ?_, ?_, ?_⟩) (by unfold Sm at hl; omega) (by unfold Sm at hl; omega) (by have := eb8.1; omega)) ?_
    · rw [hiv]
      exact va5.lift fun b hb hlt => ⟨(e8.2 b (by have := e6.1; omega)).trans ((q7 b (by omega)).trans (e6.2 b hlt)), by omega, b6.apart (by omega)⟩
    · rw [hiv]
      exact vb5.lift fun b hb hlt => ⟨(e8.2 b (by have := e6.1; omega)).trans ((q7 b (by omega)).trans (e6.2 b hlt)), by omega, b6.apart (by omega)⟩
    · rw [hiv]; exact ex
    · rw [hiv]; exact ey
    rintro s9 h9 ⟨o9, e9, k9⟩
    have EE : Ext (H.n + 6) hb h9 := (eb8.mono hnb).trans e9
    have S9 := (EE.2 _ (by omega)).trans b5
    have ls9 := at_lt S9
    have o91 := o9.one
    simp only [core, Nat.reduceAdd, Nat.reduceSub, Nat.reduceMul, Nat.reduceLT, Nat.reduceEqDiff, reduceCtorEq, Nat.reduceLeDiff, Int.reduceLE, Int.reduceLT, Int.reduceToNat, g3, g5, hn, S9, ls9, o91]
    refine ⟨busyL LO, ?_, true, rfl, fun _ => ⟨?_, ?_, ?_, ?_, ⟨s9, ?_, ?_⟩, ?_, ?_⟩, fun h => by cases h⟩
    · exact (at_put_ne _ (by omega)).trans ((EE.2 _ (by omega)).trans b7)
    · exact ((EB.trans (EE.mono (by omega))).put _ (by omega)).put _ (by omega)
    · exact (at_put_ne _ (by omega)).trans ((at_put_ne _ (by omega)).trans ((EE.2 _ (by omega)).trans b2))
    · exact (at_put_ne _ (by omega)).trans ((at_put_ne _ (by omega)).trans ((EE.2 _ (by omega)).trans b3))
    · exact (at_put_ne _ (by omega)).trans ((at_put_ne _ (by omega)).trans ((EE.2 _ (by omega)).trans b4))
    · exact (at_put_ne _ (by omega)).trans (at_put_same _ ls9)
    · rw [htk]
      exact o9.below (fun _ h => h) (fun b hb => (at_put_ne _ (by omega)).trans (at_put_ne _ (by omega)))
    · exact (at_put_same _ (by rw [n_put]; exact at_lt ((EE.2 _ (by omega)).trans b7))).trans (by rw [hLO]; rfl)
    · exact (at_put_ne _ (by omega)).trans ((at_put_ne _ (by omega)).trans ((EE.2 _ (by omega)).trans b8))
  · have up : ∀ b x, h2.at b = some x → ((h2.push .defd).push (.loop LO)).at b = some x := fun b x hx => by
      have := at_lt hx
      exact (at_push_lt _ (by rw [n_push]; omega)).trans ((at_push_lt _ this).trans hx)
    refine ⟨(E2.push _ E2.1).push _ (by rw [n_push]; have := E2.1; omega), up _ _ M2, up _ _ P2, up _ _ Q2, ⟨_, up _ _ F2, OwnL.nil⟩, ?_, ?_⟩
    · have := at_push_n (h2.push .defd) (.loop LO)
      rw [n_push, n2] at this
      exact this
    · have := at_push_n h2 .defd
      rw [n2] at this
      exact (at_push_lt _ (by rw [n_push]; omega)).trans this
  · rintro _ h (⟨j1, j2, j3, j4, ⟨s, j5, j6⟩, j7, j8⟩ | hf)
    · refine ⟨LO, by rw [n2]; exact j7, by rw [hLO]; simp, ?_⟩
      obtain ⟨hb, hhb⟩ : ∃ hb, hb = h.put (h2.n + 1) (.loop { LO with state := .exhausted }) := ⟨_, rfl⟩
      have EB : Ext H.n H hb := hhb ▸ j1.put _ (by omega)
      have b5 : hb.at (H.n + 1) = some (.cells [s] 59) := hhb ▸ (at_put_ne _ (by omega)).trans j5
      have b6 : OwnL RIv (fun b => H.n + 6 ≤ b) (H.n + 6) hb s 65 ((ivsF pool seed ms).take (runsF pool seed ms).length) := hhb ▸ j6.below (fun _ h => h) (fun b hb => at_put_ne _ (by omega))
      have b8 : hb.at h2.n = some .defd := hhb ▸ (at_put_ne _ (by omega)).trans (by rw [n2]; exact j8)
      rw [← hhb]
      clear hhb
      rw [hLO]
      simp only [core, Nat.reduceAdd, Nat.reduceSub, Nat.reduceMul, Nat.reduceLT, Nat.reduceEqDiff, reduceCtorEq, Nat.reduceLeDiff, Int.reduceLE, Int.reduceLT, Int.reduceToNat, Option.map_none, Option.toList_none, List.nil_append, g5, hn]
      refine ⟨b8, EB.put _ (by omega), s, (at_put_ne _ (by omega)).trans b5, ?_⟩
      rw [List.take_of_length_le (by unfold ivsF; rw [List.length_map]; exact Nat.le_refl _)] at b6
      exact (b6.below (fun _ h => h) (fun b hb => at_put_ne _ (by omega))).toSl (fun _ h => h) (fun _ h => h)
    · exact hf.elim
end Go.Proofs.Ytkgbeihcepociaa.Ex
end

section

set_option linter.unusedSimpArgs false
set_option linter.unusedVariables false
set_option maxRecDepth 10000
set_option maxHeartbeats 4000000
namespace Go.Proofs.Ytkgbeihcepociaa.Ex
open Go
def ivV (x : IvD) (va vb : AV) : AV := .agg [.lit (.int .i64 x.first), .lit (.int .i64 x.last), va, vb, .lit (.bool x.mayRw)]
theorem each1_x {F : Nat → Prop} {H : AH} {s : AV} {xs : List IvD} {p l : Nat} (hp : H.at p = some (.cells [s] 59)) (hv : IsSl RIv F H s xs) (hl : xs.length * 72 ≤ 140737488355328) (hs : ∀ x ∈ xs, x.acting.length * 8 ≤ 140737488355328 ∧ x.boots.length * 8 ≤ 140737488355328)
    (J : Nat → AH → Prop) (R : AH → Prop) (hJ : ∀ i h, J i h → Ext H.n H h) (hE : ∀ i h h', J i h → Ext h.n h h' → J i h')
    (hr : ∀ i x h0 h va vb, xs[i]? = some x → J i h0 → Ext h0.n h0 h → IsSl RInt (fun b => h0.n ≤ b) h va x.acting → IsSl RInt (fun b => h0.n ≤ b) h vb x.boots → I64 x.first → I64 x.last → WR Try.prog (tabOf Try.prog NT0) S0 l [ivV x va vb] h fun r h2 => ∃ b, r = .lit (.bool b) ∧ (b = true → J (i + 1) h2) ∧ (b = false → R h2))
    {h : AH} (h0 : J 0 h) : WC Try.prog (tabOf Try.prog NT0) S0 87 [.fn (.yield l) [] [], .ptr p 0] h fun _ h2 => J xs.length h2 ∨ R h2 := by
  refine WC_fn Try.func87 rfl rfl ?_
  have s1 := hv.isSl
  have s2 := hv.lenD
  have E0 := hJ _ _ h0
  have P0 := (E0.2 _ (at_lt hp)).trans hp
  have LP0 := ld_at (T := tabOf Try.prog NT0) P0
  have lp0 := at_lt P0
  simp only [core, Nat.reduceAdd, Nat.reduceSub, Nat.reduceMul, Nat.reduceLT, Nat.reduceEqDiff, reduceCtorEq, Nat.reduceLeDiff, Int.reduceLE, Int.reduceLT, Int.reduceToNat, Try.ntmps87, s1, s2, LP0, lp0]
  refine WB_for xs.length (fun i t h => J i h ∧ t.n = 24 ∧ t.get 0 = .fn (.yield l) [] [] ∧ t.get 1 = .ptr p 0 ∧ t.get 5 = s ∧ t.get 6 = .lit (.int .i64 xs.length) ∧ t.get 7 = .lit (.int .i64 i)) ?_ ?_ _ _ ?_
  · rintro i t h hlt hc ⟨hj, hn, g0, g1, g5, g6, g7⟩ ih
    have E := hJ _ _ hj
    obtain ⟨x, hx⟩ : ∃ x, xs[i]? = some x := ⟨_, List.getElem?_eq_getElem hlt⟩
    have hw := wrap_succ hlt (by omega)
    obtain ⟨c, hc1, hld, hld0⟩ := hv.atE (T := tabOf Try.prog NT0) E RIv_z hx
    obtain ⟨va, vb, rfl, ha, hb, f1, f2⟩ := RIv_is.1 hc1
    have a1 := ha.one
    have b1 := hb.one
    have a2 := ha.isSl
    have b2 := hb.isSl
    obtain ⟨hsa, hsb⟩ := hs x (List.mem_of_getElem? hx)
    simp only [core, Nat.reduceAdd, Nat.reduceSub, Nat.reduceMul, Nat.reduceLT, Nat.reduceEqDiff, reduceCtorEq, Nat.reduceLeDiff, Int.reduceLE, Int.reduceLT, Int.reduceToNat, s1, s2, hn, g0, g1, g5, g6, g7, hlt, hc, hw, hld, hld0, a1, b1]
    obtain ⟨h1, hh1⟩ : ∃ h1, h1 = h.push (.cells [.lit (.int .i64 x.first), .lit (.int .i64 x.last), va, vb, .lit (.bool x.mayRw)] 65) := ⟨_, rfl⟩
    have e1 : Ext h.n h h1 := hh1 ▸ (Ext.refl _ _).push _ (Nat.le_refl _)
    have X1 : h1.at h.n = some (.cells [.lit (.int .i64 x.first), .lit (.int .i64 x.last), va, vb, .lit (.bool x.mayRw)] 65) := hh1 ▸ at_push_n _ _
    have nx1 := at_lt X1
    have LX1 := ld_at (T := tabOf Try.prog NT0) X1
    rw [← hh1]
    clear hh1
    rw [WB_regionD [0, 1, 3, 4, 2, 6, 5, 7, 8, 9] 632895786129742360360258634752 (by kernel_rfl)]
    repeat ((with_reducible refine WDM_cons ?_; simp only [dw1]; try simp only [dw2, Nat.reduceAdd, Nat.reduceMul, Nat.reduceShiftRight, Nat.reduceMod, Nat.reduceEqDiff]); simp only [core, Nat.reduceAdd, Nat.reduceSub, Nat.reduceMul, Nat.reduceLT, Nat.reduceEqDiff, reduceCtorEq, Nat.reduceLeDiff, Int.reduceLE, Int.reduceLT, Int.reduceToNat, cored, hn, g0, g1, g5, g6, g7, LX1, nx1, a1, b1, a2, b2])
    refine (clone_x (ha.ext (E.step e1) (Nat.le_refl _)) hsa).mono ?_
    rintro ra h2 ⟨e2, ra1, -⟩
    have X2 := (e2.2 _ nx1).trans X1
    have nx2 := at_lt X2
    have LX2 := ld_at (T := tabOf Try.prog NT0) X2
    have ra2 := ra1.isSl
    have ra3 := ra1.one
    repeat ((with_reducible refine WDM_cons ?_; simp only [dw1]; try simp only [dw2, Nat.reduceAdd, Nat.reduceMul, Nat.reduceShiftRight, Nat.reduceMod, Nat.reduceEqDiff]); simp only [core, Nat.reduceAdd, Nat.reduceSub, Nat.reduceMul, Nat.reduceLT, Nat.reduceEqDiff, reduceCtorEq, Nat.reduceLeDiff, Int.reduceLE, Int.reduceLT, Int.reduceToNat, cored, hn, g0, g1, g5, g6, g7, LX2, nx2, a1, b1, a2, b2, ra2, ra3])
    refine (clone_x (hb.ext ((E.step e1).step e2) (Nat.le_refl _)) hsb).mono ?_
    rintro rb h3 ⟨e3, rb1, -⟩
    have X3 := (e3.2 _ nx2).trans X2
    have nx3 := at_lt X3
    have LX3 := ld_at (T := tabOf Try.prog NT0) X3
    have rb2 := rb1.isSl
    have rb3 := rb1.one
    have eh3 : Ext h.n h h3 := (e1.step e2).step e3
    repeat ((with_reducible refine WDM_cons ?_; simp only [dw1]; try simp only [dw2, Nat.reduceAdd, Nat.reduceMul, Nat.reduceShiftRight, Nat.reduceMod, Nat.reduceEqDiff]); simp only [core, Nat.reduceAdd, Nat.reduceSub, Nat.reduceMul, Nat.reduceLT, Nat.reduceEqDiff, reduceCtorEq, Nat.reduceLeDiff, Int.reduceLE, Int.reduceLT, Int.reduceToNat, cored, hn, g0, g1, g5, g6, g7, LX3, X3, nx3, a1, b1, a2, b2, ra2, ra3, rb2, rb3, WOp_round, call_yield])
    obtain ⟨h4, hh4⟩ : ∃ h4, h4 = (h3.put h.n (.cells [.lit (.int .i64 x.first), .lit (.int .i64 x.last), ra, vb, .lit (.bool x.mayRw)] 65)).put h.n (.cells [.lit (.int .i64 x.first), .lit (.int .i64 x.last), ra, rb, .lit (.bool x.mayRw)] 65) := ⟨_, rfl⟩
    have e4 : Ext h.n h h4 := hh4 ▸ (eh3.put _ (Nat.le_refl _)).put _ (Nat.le_refl _)
    have q4 : ∀ b, b ≠ h.n → h4.at b = h3.at b := fun b hb => hh4 ▸ (at_put_ne _ (fun h => hb h.symm)).trans (at_put_ne _ (fun h => hb h.symm))
    rw [← hh4]
    clear hh4
    have q1 := e1.1
    have q2 := e2.1
    refine (hr i x h h4 ra rb hx hj e4 (ra1.lift fun b hb hlt => ⟨(q4 b (by omega)).trans (e3.2 b hlt), by omega⟩) (rb1.lift fun b hb _ => ⟨q4 b (by omega), by omega⟩) f1 f2).mono ?_
    rintro _ h5 ⟨b, rfl, k1, k2⟩
    cases b with
    | true =>
      simp only [core, Nat.reduceAdd, Nat.reduceSub, Nat.reduceMul, Nat.reduceLT, Nat.reduceEqDiff, reduceCtorEq, Nat.reduceLeDiff, Int.reduceLE, Int.reduceLT, Int.reduceToNat, hn, g0, g1, g5, g6, g7, hw]
      exact ih _ _ ⟨k1 rfl, by simp only [core, Nat.reduceAdd, Nat.reduceSub, Nat.reduceMul, Nat.reduceLT, Nat.reduceEqDiff, reduceCtorEq, Nat.reduceLeDiff, Int.reduceLE, Int.reduceLT, Int.reduceToNat, hn, g0, g1, g5, g6, g7]⟩
    | false =>
      simp only [core, Nat.reduceAdd, Nat.reduceSub, Nat.reduceMul, Nat.reduceLT, Nat.reduceEqDiff, reduceCtorEq, Nat.reduceLeDiff, Int.reduceLE, Int.reduceLT, Int.reduceToNat, hn, g0, g1, g5, g6, g7]
      exact ⟨by simp, .inr (k2 rfl)⟩
  · rintro t h hc ⟨hj, hn, g0, g1, g5, g6, g7⟩
    simp only [core, Nat.reduceAdd, Nat.reduceSub, Nat.reduceMul, Nat.reduceLT, Nat.reduceEqDiff, reduceCtorEq, Nat.reduceLeDiff, Int.reduceLE, Int.reduceLT, Int.reduceToNat, s1, s2, hn, g0, g1, g5, g6, g7, hc]
    exact ⟨by simp, .inl hj⟩
  · simp only [core, Nat.reduceAdd, Nat.reduceSub, Nat.reduceMul, Nat.reduceLT, Nat.reduceEqDiff, reduceCtorEq, Nat.reduceLeDiff, Int.reduceLE, Int.reduceLT, Int.reduceToNat]
    refine ⟨h0, ?_⟩
    (repeat' apply And.intro) <;> first | rfl | trivial
theorem ivs_ok {pool seed : Int} {ms : List MapD} : ∀ x ∈ ivsF pool seed ms, x.acting.length ≤ 8 ∧ x.boots.length ≤ 8 := fun x hx => by
  unfold ivsF at hx
  obtain ⟨r, -, rfl⟩ := List.mem_map.1 hx
  unfold ivOf bootF
  simp only [List.length_map]
  exact ⟨actF_len, actF_len⟩
/-- All of them in a slice. -/
theorem seq_x {F : Nat → Prop} {H : AH} {s : AV} {xs : List IvD} {p : Nat} (hp : H.at p = some (.cells [s] 59)) (hv : IsSl RIv F H s xs) (hl : xs.length * 72 ≤ 140737488355328) (hs : ∀ x ∈ xs, x.acting.length * 8 ≤ 140737488355328 ∧ x.boots.length * 8 ≤ 140737488355328) :
    WC Try.prog (tabOf Try.prog NT0) S0 124 [.lit (.slice none 0 0), .fn (.func 87) [] [.ptr p 0]] H fun r h' => Ext H.n H h' ∧ OwnL RIv (fun b => H.n + 3 ≤ b) (H.n + 3) h' r 65 xs := by
  refine WC_fn Try.func124 rfl rfl ?_
  simp only [core, Nat.reduceAdd, Nat.reduceSub, Nat.reduceMul, Nat.reduceLT, Nat.reduceEqDiff, reduceCtorEq, Nat.reduceLeDiff, Int.reduceLE, Int.reduceLT, Int.reduceToNat, Try.ntmps124]
  generalize htt : TM.set _ 6 _ = tt
  have hn : tt.n = 13 := by rw [← htt]; simp only [core, Nat.reduceAdd, Nat.reduceSub, Nat.reduceMul, Nat.reduceLT, Nat.reduceEqDiff, reduceCtorEq, Nat.reduceLeDiff, Int.reduceLE, Int.reduceLT, Int.reduceToNat]
  have g2 : tt.get 2 = .ptr H.n 0 := by rw [← htt]; simp only [core, Nat.reduceAdd, Nat.reduceSub, Nat.reduceMul, Nat.reduceLT, Nat.reduceEqDiff, reduceCtorEq, Nat.reduceLeDiff, Int.reduceLE, Int.reduceLT, Int.reduceToNat]
  have g6 : tt.get 6 = .fn (.func 87) [] [.ptr p 0] := by rw [← htt]; simp only [core, Nat.reduceAdd, Nat.reduceSub, Nat.reduceMul, Nat.reduceLT, Nat.reduceEqDiff, reduceCtorEq, Nat.reduceLeDiff, Int.reduceLE, Int.reduceLT, Int.reduceToNat]
  clear htt
  generalize hh2 : AH.push H _ = h2
  have E2 : Ext H.n H h2 := hh2 ▸ (Ext.refl _ _).push _ (Nat.le_refl _)
  have n2 : h2.n = H.n + 1 := by rw [← hh2, n_push]
  have F2 : h2.at H.n = some (.cells [.lit (.slice none 0 0)] 59) := hh2 ▸ at_push_n _ _
  clear hh2
  refine WB_rangeW rfl (fv := .fn (.func 87) [] [.ptr p 0]) (by simp only [core, Nat.reduceAdd, Nat.reduceSub, Nat.reduceMul, Nat.reduceLT, Nat.reduceEqDiff, reduceCtorEq, Nat.reduceLeDiff, Int.reduceLE, Int.reduceLT, Int.reduceToNat, g6]) rfl fun LO hLO => ?_
  refine (each1_x (l := h2.n + 1) hp hv hl hs
    (fun i h => Ext H.n H h ∧ (∃ s, h.at H.n = some (.cells [s] 59) ∧ OwnL RIv (fun b => H.n + 3 ≤ b) (H.n + 3) h s 65 (xs.take i)) ∧ h.at (H.n + 2) = some (.loop LO) ∧ h.at (H.n + 1) = some .defd)
    (fun _ => False) (fun i h j => j.1) (fun i h h' ⟨j1, ⟨s, j5, j6⟩, j7, j8⟩ e => ⟨j1.step e, ⟨s, (e.2 _ (at_lt j5)).trans j5, j6.ext e (Nat.le_refl _)⟩, (e.2 _ (at_lt j7)).trans j7, (e.2 _ (at_lt j8)).trans j8⟩) ?_ ?_).mono ?_
  · rintro i x h0 h va vb hx ⟨j1, ⟨s, j5, j6⟩, j7, j8⟩ e0 ha hbb f1 f2
    have a1 := ha.one
    have b1 := hbb.one
    have hlt : i < xs.length := (List.getElem?_eq_some_iff.1 hx).1
    have htk : xs.take (i + 1) = xs.take i ++ [x] := by rw [List.take_add_one, hx]; rfl
    have k7 := (e0.2 _ (at_lt j7)).trans j7
    rw [n2]
    refine WR_round hLO k7 rfl ?_
    simp only [core, Nat.reduceAdd, Nat.reduceSub, Nat.reduceMul, Nat.reduceLT, Nat.reduceEqDiff, reduceCtorEq, Nat.reduceLeDiff, Int.reduceLE, Int.reduceLT, Int.reduceToNat, sp_cons, sp_nil, ivV, g2, hn, a1, b1]
    obtain ⟨h1, hh1⟩ : ∃ h1, h1 = h.push (.cells [.lit (.int .i64 x.first), .lit (.int .i64 x.last), va, vb, .lit (.bool x.mayRw)] 65) := ⟨_, rfl⟩
    have e1 : Ext h.n h h1 := hh1 ▸ (Ext.refl _ _).push _ (Nat.le_refl _)
    have X1 : h1.at h.n = some (.cells [.lit (.int .i64 x.first), .lit (.int .i64 x.last), va, vb, .lit (.bool x.mayRw)] 65) := hh1 ▸ at_push_n _ _
    rw [← hh1]
    clear hh1
    have l7 := (e1.2 _ (at_lt k7)).trans k7
    refine WB_beginL hLO rfl l7 ?_
    have EX := j1.step (e0.step e1)
    have ee := e0.step e1
    have hnh := at_lt j7
    have hne := e0.1
    have T5 := (ee.2 _ (at_lt j5)).trans j5
    have T6 := j6.ext ee (Nat.le_refl _)
    have T8 := (ee.2 _ (at_lt j8)).trans j8
    obtain ⟨hb, hhb⟩ : ∃ hb, hb = h1.put (H.n + 2) (.loop (busyL LO)) := ⟨_, rfl⟩
    have EB : Ext H.n H hb := hhb ▸ EX.put _ (by omega)
    have qb : ∀ b, b ≠ H.n + 2 → hb.at b = h1.at b := fun b hb => hhb ▸ at_put_ne _ (fun h => hb h.symm)
    have nb : hb.n = h1.n := by rw [hhb, n_put]
    have b7 : hb.at (H.n + 2) = some (.loop (busyL LO)) := hhb ▸ at_put_same _ (at_lt l7)
    rw [← hhb]
    clear hhb
    have b5 := (qb H.n (by omega)).trans T5
    have b8 := (qb (H.n + 1) (by omega)).trans T8
    have b6 : OwnL RIv (fun b => H.n + 3 ≤ b) (H.n + 3) hb s 65 (xs.take i) := T6.below (fun _ h => h) (fun b hb => qb _ (by omega))
    have bX := (qb h.n (by omega)).trans X1
    have lb5 := at_lt b5
    have LB5 := ld_at (T := tabOf Try.prog NT0) b5
    have lbX := at_lt bX
    have LBX := ld_at (T := tabOf Try.prog NT0) bX
    have so := b6.isSl
    have so1 := b6.one
    simp only [core, Nat.reduceAdd, Nat.reduceSub, Nat.reduceMul, Nat.reduceLT, Nat.reduceEqDiff, reduceCtorEq, Nat.reduceLeDiff, Int.reduceLE, Int.reduceLT, Int.reduceToNat, g2, hn, LB5, lb5, LBX, lbX, so, so1, a1, b1]
    obtain ⟨h8, hh8⟩ : ∃ h8, h8 = hb.push (.cells [.lit (.int .i64 x.first), .lit (.int .i64 x.last), va, vb, .lit (.bool x.mayRw)] 65) := ⟨_, rfl⟩
    have e8 : Ext hb.n hb h8 := hh8 ▸ (Ext.refl _ _).push _ (Nat.le_refl _)
    have X8 : h8.at hb.n = some (.cells [.lit (.int .i64 x.first), .lit (.int .i64 x.last), va, vb, .lit (.bool x.mayRw)] 65) := hh8 ▸ at_push_n _ _
    rw [← hh8]
    clear hh8
    have hil : (xs.take i).length + 1 ≤ xs.length := by rw [List.length_take]; omega
    have hap : ∀ b, h0.n ≤ b → Apart s b := fun b hb => j6.apart hb
    have he1 := e1.1
    refine WOp_app ((b6.ext e8 (Nat.le_refl _)).snoc (by kernel_rfl) (by kernel_rfl) (by kernel_rfl) (zv := .agg [.lit (.int .i64 0), .lit (.int .i64 0), .lit (.slice none 0 0), .lit (.slice none 0 0), .lit (.bool false)]) (by kernel_rfl) (by' := 72) (by kernel_rfl) rfl (by decide) (by decide) X8
      (y := x) (RIv_is.2 ⟨va, vb, rfl, ?_, ?_, f1, f2⟩) (by omega) (by omega) (by have := e8.1; omega)) ?_
    · exact ha.lift fun b hb hlt => ⟨(e8.2 b (by omega)).trans ((qb b (by omega)).trans (e1.2 b hlt)), by omega, hap b hb⟩
    · exact hbb.lift fun b hb hlt => ⟨(e8.2 b (by omega)).trans ((qb b (by omega)).trans (e1.2 b hlt)), by omega, hap b hb⟩
    rintro s9 h9 ⟨o9, e9, k9⟩
    have EE : Ext (H.n + 3) hb h9 := (e8.mono (by omega)).trans e9
    have S9 := (EE.2 _ (by omega)).trans b5
    have ls9 := at_lt S9
    have o91 := o9.one
    simp only [core, Nat.reduceAdd, Nat.reduceSub, Nat.reduceMul, Nat.reduceLT, Nat.reduceEqDiff, reduceCtorEq, Nat.reduceLeDiff, Int.reduceLE, Int.reduceLT, Int.reduceToNat, g2, hn, S9, ls9, o91]
    refine ⟨busyL LO, ?_, true, rfl, fun _ => ⟨?_, ⟨s9, ?_, ?_⟩, ?_, ?_⟩, fun h => by cases h⟩
    · exact (at_put_ne _ (by omega)).trans ((EE.2 _ (by omega)).trans b7)
    · exact ((EB.trans (EE.mono (by omega))).put _ (by omega)).put _ (by omega)
    · exact (at_put_ne _ (by omega)).trans (at_put_same _ ls9)
    · rw [htk]
      exact o9.below (fun _ h => h) (fun b hb => (at_put_ne _ (by omega)).trans (at_put_ne _ (by omega)))
    · exact (at_put_same _ (by rw [n_put]; exact at_lt ((EE.2 _ (by omega)).trans b7))).trans (by rw [hLO]; rfl)
    · exact (at_put_ne _ (by omega)).trans ((at_put_ne _ (by omega)).trans ((EE.2 _ (by omega)).trans b8))
  · have up : ∀ b x, h2.at b = some x → ((h2.push .defd).push (.loop LO)).at b = some x := fun b x hx => by
      have := at_lt hx
      exact (at_push_lt _ (by rw [n_push]; omega)).trans ((at_push_lt _ this).trans hx)
    refine ⟨(E2.push _ E2.1).push _ (by rw [n_push]; have := E2.1; omega), ⟨_, up _ _ F2, OwnL.nil⟩, ?_, ?_⟩
    · have := at_push_n (h2.push .defd) (.loop LO)
      rw [n_push, n2] at this
      exact this
    · have := at_push_n h2 .defd
      rw [n2] at this
      exact (at_push_lt _ (by rw [n_push]; omega)).trans this
  · rintro _ h (⟨j1, ⟨s, j5, j6⟩, j7, j8⟩ | hf)
    · refine ⟨LO, by rw [n2]; exact j7, by rw [hLO]; simp, ?_⟩
      obtain ⟨hb, hhb⟩ : ∃ hb, hb = h.put (h2.n + 1) (.loop { LO with state := .exhausted }) := ⟨_, rfl⟩
      have EB : Ext H.n H hb := hhb ▸ j1.put _ (by omega)
      have b5 : hb.at H.n = some (.cells [s] 59) := hhb ▸ (at_put_ne _ (by omega)).trans j5
      have b6 : OwnL RIv (fun b => H.n + 3 ≤ b) (H.n + 3) hb s 65 (xs.take xs.length) := hhb ▸ j6.below (fun _ h => h) (fun b hb => at_put_ne _ (by omega))
      have b8 : hb.at h2.n = some .defd := hhb ▸ (at_put_ne _ (by omega)).trans (by rw [n2]; exact j8)
      rw [← hhb]
      clear hhb
      have lb5 := at_lt b5
      have LB5 := ld_at (T := tabOf Try.prog NT0) b5
      have so := b6.isSl
      rw [hLO]
      simp only [core, Nat.reduceAdd, Nat.reduceSub, Nat.reduceMul, Nat.reduceLT, Nat.reduceEqDiff, reduceCtorEq, Nat.reduceLeDiff, Int.reduceLE, Int.reduceLT, Int.reduceToNat, Option.map_none, Option.toList_none, List.nil_append, g2, hn, LB5, lb5, so]
      refine ⟨b8, EB.put _ (by omega), ?_⟩
      rw [List.take_length] at b6
      exact b6.below (fun _ h => h) (fun b hb => at_put_ne _ (by omega))
    · exact hf.elim
theorem all_x {F : Nat → Prop} {H : AH} {v : AV} {ms : List MapD} (pool seed : Int) (hv : IsSl RMp F H v ms) (hl : Sm 88 ms) (hok : ∀ m ∈ ms, OkMp m) :
    WC Try.prog (tabOf Try.prog NT0) S0 32 [v, pgV pool seed] H fun r h' => Ext H.n H h' ∧ ∃ n0, H.n ≤ n0 ∧ OwnL RIv (fun b => n0 ≤ b) n0 h' r 65 (ivsF pool seed ms) := by
  refine WC_fn Try.func32 rfl rfl ?_
  have s1 := hv.isSl
  have o1 := hv.one
  simp only [core, Nat.reduceAdd, Nat.reduceSub, Nat.reduceMul, Nat.reduceLT, Nat.reduceEqDiff, reduceCtorEq, Nat.reduceLeDiff, Int.reduceLE, Int.reduceLT, Int.reduceToNat, Try.ntmps32, pgV, s1]
  obtain ⟨h1, hh1⟩ : ∃ h1, h1 = H.push (pgB pool seed) := ⟨_, rfl⟩
  have e1 : Ext H.n H h1 := hh1 ▸ (Ext.refl _ _).push _ (Nat.le_refl _)
  unfold pgB at hh1
  rw [← hh1]
  clear hh1
  refine (each_x pool seed (hv.ext e1 (Nat.le_refl _)) hl hok).mono ?_
  rintro _ h2 ⟨rfl, e2, s, hs, hiv⟩
  have hlen : (ivsF pool seed ms).length * 72 ≤ 140737488355328 := by
    have := ivsF_len (pool := pool) (seed := seed) (ms := ms)
    unfold Sm at hl
    omega
  simp only [core, Nat.reduceAdd, Nat.reduceSub, Nat.reduceMul, Nat.reduceLT, Nat.reduceEqDiff, reduceCtorEq, Nat.reduceLeDiff, Int.reduceLE, Int.reduceLT, Int.reduceToNat]
  have hcol : WC Try.prog (tabOf Try.prog NT0) S0 82 [.fn (.func 87) [] [.ptr (h1.n + 1) 0]] h2 fun r h' => Ext h2.n h2 h' ∧ OwnL RIv (fun b => h2.n + 3 ≤ b) (h2.n + 3) h' r 65 (ivsF pool seed ms) := by
    refine WC_fn Try.func82 rfl rfl ?_
    simp only [core, Nat.reduceAdd, Nat.reduceSub, Nat.reduceMul, Nat.reduceLT, Nat.reduceEqDiff, reduceCtorEq, Nat.reduceLeDiff, Int.reduceLE, Int.reduceLT, Int.reduceToNat, Try.ntmps82]
    refine (seq_x hs hiv hlen (fun x hx => by have := ivs_ok x hx; omega)).mono ?_
    rintro r h3 ⟨e3, o3⟩
    have r1 := o3.isSl
    simp only [core, Nat.reduceAdd, Nat.reduceSub, Nat.reduceMul, Nat.reduceLT, Nat.reduceEqDiff, reduceCtorEq, Nat.reduceLeDiff, Int.reduceLE, Int.reduceLT, Int.reduceToNat, r1]
    exact ⟨e3, o3⟩
  refine hcol.mono ?_
  rintro r h3 ⟨e3, o3⟩
  have r1 := o3.isSl
  simp only [core, Nat.reduceAdd, Nat.reduceSub, Nat.reduceMul, Nat.reduceLT, Nat.reduceEqDiff, reduceCtorEq, Nat.reduceLeDiff, Int.reduceLE, Int.reduceLT, Int.reduceToNat, r1]
  have q1 := e1.1
  have q2 := e2.1
  exact ⟨(e1.step e2).step e3, h2.n + 3, by omega, o3⟩
end Go.Proofs.Ytkgbeihcepociaa.Ex
end

section

set_option linter.unusedSimpArgs false
set_option linter.unusedVariables false
set_option maxRecDepth 10000
set_option maxHeartbeats 4000000
namespace Go.Proofs.Ytkgbeihcepociaa.Ex
open Go
end Go.Proofs.Ytkgbeihcepociaa.Ex
end

section

set_option linter.unusedSimpArgs false
set_option linter.unusedVariables false
set_option maxRecDepth 10000
set_option maxHeartbeats 4000000
namespace Go.Proofs.Ytkgbeihcepociaa.Ex
open Go
end Go.Proofs.Ytkgbeihcepociaa.Ex
end

section

set_option linter.unusedSimpArgs false
set_option linter.unusedVariables false
set_option maxRecDepth 10000
set_option maxHeartbeats 4000000
namespace Go.Proofs.Ytkgbeihcepociaa.Ex
open Go
theorem few_x {F : Nat → Prop} {H : AH} {v : AV} {ms : List MapD} (hv : IsSl RMp F H v ms) (hl : Sm 88 ms) :
    WC Try.prog (tabOf Try.prog NT0) S0 30 [v] H fun r h' => Ext H.n H h' ∧ ∃ b, r = .lit (.bool b) := by
  refine WC_fn Try.func30 rfl rfl ?_
  unfold Sm at hl
  have s1 := hv.isSl
  have s2 := hv.lenD
  simp only [core, Nat.reduceAdd, Nat.reduceSub, Nat.reduceMul, Nat.reduceLT, Nat.reduceEqDiff, reduceCtorEq, Nat.reduceLeDiff, Int.reduceLE, Int.reduceLT, Int.reduceToNat, Try.ntmps30, s1, s2]
  refine WB_for ms.length (fun i t h => Ext H.n H h ∧ ∃ n : Int, t.n = 26 ∧ t.get 3 = .lit (.int .i64 n) ∧ t.get 8 = v ∧ t.get 9 = .lit (.int .i64 ms.length) ∧ t.get 10 = .lit (.int .i64 i)) ?_ ?_ _ _ ?_
  · rintro i t h hlt hc ⟨E, n, hn, g3, g8, g9, g10⟩ ih
    obtain ⟨x, hx⟩ : ∃ x, ms[i]? = some x := ⟨_, List.getElem?_eq_getElem hlt⟩
    have hw := wrap_succ hlt (by omega)
    obtain ⟨c, hc1, hld, hld0⟩ := hv.atE (T := tabOf Try.prog NT0) E RMp_z hx
    obtain ⟨vo, vp, vb, rfl, m1, m2, m3, -⟩ := RMp_is.1 hc1
    have i1 := m1.one
    have i2 := m2.one
    have i3 := m3.one
    have j2 := m2.isSl
    have j3 := m3.isSl
    have k2 := m2.lenD
    have k3 := m3.lenD
    simp only [core, Nat.reduceAdd, Nat.reduceSub, Nat.reduceMul, Nat.reduceLT, Nat.reduceEqDiff, reduceCtorEq, Nat.reduceLeDiff, Int.reduceLE, Int.reduceLT, Int.reduceToNat, s1, s2, hn, g3, g8, g9, g10, hlt, hc, hw, hld, hld0, i1, i2, i3, j2, j3, k2, k3]
    refine ih _ _ ⟨E.push _ E.1, IntKind.i64.wrap (n + IntKind.i64.wrap ((x.buckets.length : Int) + (x.pools.length : Int))), ?_⟩
    simp only [core, Nat.reduceAdd, Nat.reduceSub, Nat.reduceMul, Nat.reduceLT, Nat.reduceEqDiff, reduceCtorEq, Nat.reduceLeDiff, Int.reduceLE, Int.reduceLT, Int.reduceToNat, hn, g3, g8, g9, g10]
  · rintro t h hc ⟨E, n, hn, g3, g8, g9, g10⟩
    simp only [core, Nat.reduceAdd, Nat.reduceSub, Nat.reduceMul, Nat.reduceLT, Nat.reduceEqDiff, reduceCtorEq, Nat.reduceLeDiff, Int.reduceLE, Int.reduceLT, Int.reduceToNat, s1, s2, hn, g3, g8, g9, g10, hc]
    exact ⟨E, _, rfl⟩
  · simp only [core, Nat.reduceAdd, Nat.reduceSub, Nat.reduceMul, Nat.reduceLT, Nat.reduceEqDiff, reduceCtorEq, Nat.reduceLeDiff, Int.reduceLE, Int.reduceLT, Int.reduceToNat]
    refine ⟨Ext.refl _ _, (ms.length : Int), ?_⟩
    (repeat' apply And.intro) <;> first | rfl | trivial
end Go.Proofs.Ytkgbeihcepociaa.Ex
end

section

set_option linter.unusedSimpArgs false
set_option linter.unusedVariables false
set_option maxRecDepth 10000
set_option maxHeartbeats 4000000
namespace Go.Proofs.Ytkgbeihcepociaa.Ex
open Go
end Go.Proofs.Ytkgbeihcepociaa.Ex
end

section

set_option linter.unusedSimpArgs false
set_option linter.unusedVariables false
set_option maxRecDepth 10000
set_option maxHeartbeats 4000000
namespace Go.Proofs.Ytkgbeihcepociaa.Ex
open Go
def osdU : OsdD := ⟨true, true, 65536, 1, 1, 1⟩
def osdV : OsdD := ⟨true, false, 65536, 1, 1, 0⟩
def poolT : PoolD := ⟨1, 2, 2, 1⟩
def bktT : BktD := ⟨-1, 3, [0, 1], [65536, 65536]⟩
def mapU : MapD := ⟨1, [osdU, osdU], [poolT], [bktT], 0⟩
def mapV : MapD := ⟨2, [osdU, osdV], [poolT], [bktT], 0⟩
def twoD : List MapD := [mapU, mapV]
theorem IsSl.ofAt {α : Type} {R : Rep α} {F : Nat → Prop} {h : AH} {p : Nat} {e : TypeId} {L : List (List AV)} {xs : List α} {n : Nat} (hat : h.at p = some (.cells L.flatten e)) (hF : F p) (he : Els R F h L xs) (hn : xs.length = n) : IsSl R F h (.sl p 0 n (.kn n)) xs := by
  subst hn
  have hl := flat_len (z := R.z) he.lens
  refine .mk ⟨he.lens, .inr ⟨p, 0, .kn xs.length, L.flatten, by rw [he.1], by unfold getR; rw [hat], ?_⟩⟩ (fun b off n cap e => by cases e; exact hF) (fun b off n cap e => by cases e; exact Nat.le_refl _) he
  unfold cut
  rw [if_pos (by rw [hl]; omega), List.drop_zero, ← hl, List.take_length]
def pushL (h : AH) : List AB → AH
  | [] => h
  | x :: r => pushL (h.push x) r
theorem pushL_ext : ∀ {l : List AB} {h : AH} {n0 : Nat}, n0 ≤ h.n → Ext n0 h (pushL h l)
  | [], h, n0, _ => Ext.refl _ _
  | x :: r, h, n0, hn => ((Ext.refl _ _).push x hn).trans (pushL_ext (by rw [n_push]; omega))
theorem pushL_at : ∀ {l : List AB} {h : AH} {i : Nat} {x : AB}, l[i]? = some x → (pushL h l).at (h.n + i) = some x
  | y :: r, h, 0, x, e => by
    cases e
    exact ((pushL_ext (l := r) (Nat.le_refl (h.push y).n)).2 _ (by rw [n_push]; omega)).trans (at_push_n _ _)
  | y :: r, h, i + 1, x, e => by
    have := pushL_at (l := r) (h := h.push y) (i := i) (x := x) e
    rw [n_push] at this
    rw [show h.n + (i + 1) = h.n + 1 + i by omega]
    exact this
theorem two_x {H : AH} :
    WC Try.prog (tabOf Try.prog NT0) S0 81 [] H fun r h' => Ext H.n H h' ∧ IsSl RMp (fun b => H.n ≤ b) h' r twoD := by
  refine WC_fn Try.func81 rfl rfl ?_
  simp only [core, Nat.reduceAdd, Nat.reduceSub, Nat.reduceMul, Nat.reduceLT, Nat.reduceEqDiff, reduceCtorEq, Nat.reduceLeDiff, Int.reduceLE, Int.reduceLT, Int.reduceToNat, Try.ntmps81]
  obtain ⟨bs, hbs⟩ : ∃ bs : List AB, bs = [.cells [.lit (.int .i64 0), .lit (.int .i64 1)] 3, .cells [.lit (.int .i64 65536), .lit (.int .i64 65536)] 3, .cells [.lit (.int .i64 (-1)), .lit (.int .i64 3), .sl H.n 0 2 (.kn 2), .sl (H.n + 1) 0 2 (.kn 2)] 92, .cells [.lit (.bool true), .lit (.bool true), .lit (.int .i64 65536), .lit (.int .i64 1), .lit (.int .i64 1), .lit (.int .i64 1)] 43, .cells [.lit (.bool true), .lit (.bool true), .lit (.int .i64 65536), .lit (.int .i64 1), .lit (.int .i64 1), .lit (.int .i64 1), .lit (.bool true), .lit (.bool true), .lit (.int .i64 65536), .lit (.int .i64 1), .lit (.int .i64 1), .lit (.int .i64 1)] 43, .cells [.lit (.int .i64 1), .lit (.int .i64 2), .lit (.int .i64 2), .lit (.int .i64 1)] 94, .cells [.lit (.int .i64 (-1)), .lit (.int .i64 3), .sl H.n 0 2 (.kn 2), .sl (H.n + 1) 0 2 (.kn 2)] 92, .cells [.lit (.int .i64 1), .sl (H.n + 4) 0 2 (.kn 2), .sl (H.n + 5) 0 1 (.kn 1), .sl (H.n + 6) 0 1 (.kn 1), .lit (.int .i64 0)] 31, .cells [.lit (.int .i64 2), .sl (H.n + 9) 0 2 (.kn 2), .sl (H.n + 5) 0 1 (.kn 1), .sl (H.n + 6) 0 1 (.kn 1), .lit (.int .i64 0)] 31, .cells [.lit (.bool true), .lit (.bool true), .lit (.int .i64 65536), .lit (.int .i64 1), .lit (.int .i64 1), .lit (.int .i64 1), .lit (.bool true), .lit (.bool false), .lit (.int .i64 65536), .lit (.int .i64 1), .lit (.int .i64 1), .lit (.int .i64 0)] 43, .cells [.lit (.int .i64 1), .sl (H.n + 4) 0 2 (.kn 2), .sl (H.n + 5) 0 1 (.kn 1), .sl (H.n + 6) 0 1 (.kn 1), .lit (.int .i64 0), .lit (.int .i64 2), .sl (H.n + 9) 0 2 (.kn 2), .sl (H.n + 5) 0 1 (.kn 1), .sl (H.n + 6) 0 1 (.kn 1), .lit (.int .i64 0)] 31] := ⟨_, rfl⟩
  have hh : Ext H.n H (pushL H bs) ∧ IsSl RMp (fun b => H.n ≤ b) (pushL H bs) (.sl (H.n + 10) 0 2 (.kn 2)) twoD := by
    have at' : ∀ i x, bs[i]? = some x → (pushL H bs).at (H.n + i) = some x := fun i x e => pushL_at e
    have A0 := at' 0 _ (by rw [hbs]; rfl)
    have A1 := at' 1 _ (by rw [hbs]; rfl)
    have A4 := at' 4 _ (by rw [hbs]; rfl)
    have A5 := at' 5 _ (by rw [hbs]; rfl)
    have A6 := at' 6 _ (by rw [hbs]; rfl)
    have A9 := at' 9 _ (by rw [hbs]; rfl)
    have A10 := at' 10 _ (by rw [hbs]; rfl)
    refine ⟨pushL_ext (Nat.le_refl _), ?_⟩
    generalize pushL H bs = h' at A0 A1 A4 A5 A6 A9 A10
    have i64 : ∀ n : Int, -65536 ≤ n → n ≤ 65536 → I64 n := fun n a b => ⟨by omega, by omega⟩
    have S0 : IsSl RInt (fun b => H.n ≤ b) h' (.sl H.n 0 2 (.kn 2)) [0, 1] := IsSl.ofAt (L := [[.lit (.int .i64 0)], [.lit (.int .i64 1)]]) A0 (Nat.le_refl _) ((Els.nil.snoc (RInt_is.2 ⟨rfl, i64 _ (by decide) (by decide)⟩)).snoc (RInt_is.2 ⟨rfl, i64 _ (by decide) (by decide)⟩)) rfl
    have S1 : IsSl RInt (fun b => H.n ≤ b) h' (.sl (H.n + 1) 0 2 (.kn 2)) [65536, 65536] := IsSl.ofAt (L := [[.lit (.int .i64 65536)], [.lit (.int .i64 65536)]]) A1 (by omega) ((Els.nil.snoc (RInt_is.2 ⟨rfl, i64 _ (by decide) (by decide)⟩)).snoc (RInt_is.2 ⟨rfl, i64 _ (by decide) (by decide)⟩)) rfl
    have rU : ROsd.is (fun b => H.n ≤ b) h' [.lit (.bool true), .lit (.bool true), .lit (.int .i64 65536), .lit (.int .i64 1), .lit (.int .i64 1), .lit (.int .i64 1)] osdU := ROsd_is.2 ⟨rfl, i64 _ (by decide) (by decide), i64 _ (by decide) (by decide), i64 _ (by decide) (by decide), i64 _ (by decide) (by decide)⟩
    have rV : ROsd.is (fun b => H.n ≤ b) h' [.lit (.bool true), .lit (.bool false), .lit (.int .i64 65536), .lit (.int .i64 1), .lit (.int .i64 1), .lit (.int .i64 0)] osdV := ROsd_is.2 ⟨rfl, i64 _ (by decide) (by decide), i64 _ (by decide) (by decide), i64 _ (by decide) (by decide), i64 _ (by decide) (by decide)⟩
    have S4 : IsSl ROsd (fun b => H.n ≤ b) h' (.sl (H.n + 4) 0 2 (.kn 2)) [osdU, osdU] := IsSl.ofAt (L := [[.lit (.bool true), .lit (.bool true), .lit (.int .i64 65536), .lit (.int .i64 1), .lit (.int .i64 1), .lit (.int .i64 1)], [.lit (.bool true), .lit (.bool true), .lit (.int .i64 65536), .lit (.int .i64 1), .lit (.int .i64 1), .lit (.int .i64 1)]]) A4 (by omega) ((Els.nil.snoc rU).snoc rU) rfl
    have S9 : IsSl ROsd (fun b => H.n ≤ b) h' (.sl (H.n + 9) 0 2 (.kn 2)) [osdU, osdV] := IsSl.ofAt (L := [[.lit (.bool true), .lit (.bool true), .lit (.int .i64 65536), .lit (.int .i64 1), .lit (.int .i64 1), .lit (.int .i64 1)], [.lit (.bool true), .lit (.bool false), .lit (.int .i64 65536), .lit (.int .i64 1), .lit (.int .i64 1), .lit (.int .i64 0)]]) A9 (by omega) ((Els.nil.snoc rU).snoc rV) rfl
    have S5 : IsSl RPool (fun b => H.n ≤ b) h' (.sl (H.n + 5) 0 1 (.kn 1)) [poolT] := IsSl.ofAt (L := [[.lit (.int .i64 1), .lit (.int .i64 2), .lit (.int .i64 2), .lit (.int .i64 1)]]) A5 (by omega) (Els.nil.snoc (RPool_is.2 ⟨rfl, i64 _ (by decide) (by decide), i64 _ (by decide) (by decide), i64 _ (by decide) (by decide), i64 _ (by decide) (by decide)⟩)) rfl
    have S6 : IsSl RBkt (fun b => H.n ≤ b) h' (.sl (H.n + 6) 0 1 (.kn 1)) [bktT] := IsSl.ofAt (L := [[.lit (.int .i64 (-1)), .lit (.int .i64 3), .sl H.n 0 2 (.kn 2), .sl (H.n + 1) 0 2 (.kn 2)]]) A6 (by omega) (Els.nil.snoc (RBkt_is.2 ⟨_, _, rfl, S0, S1, i64 _ (by decide) (by decide), i64 _ (by decide) (by decide)⟩)) rfl
    have rm1 : RMp.is (fun b => H.n ≤ b) h' [.lit (.int .i64 1), .sl (H.n + 4) 0 2 (.kn 2), .sl (H.n + 5) 0 1 (.kn 1), .sl (H.n + 6) 0 1 (.kn 1), .lit (.int .i64 0)] mapU := RMp_is.2 ⟨_, _, _, rfl, S4, S5, S6, i64 _ (by decide) (by decide), i64 _ (by decide) (by decide)⟩
    have rm2 : RMp.is (fun b => H.n ≤ b) h' [.lit (.int .i64 2), .sl (H.n + 9) 0 2 (.kn 2), .sl (H.n + 5) 0 1 (.kn 1), .sl (H.n + 6) 0 1 (.kn 1), .lit (.int .i64 0)] mapV := RMp_is.2 ⟨_, _, _, rfl, S9, S5, S6, i64 _ (by decide) (by decide), i64 _ (by decide) (by decide)⟩
    exact IsSl.ofAt (L := [[.lit (.int .i64 1), .sl (H.n + 4) 0 2 (.kn 2), .sl (H.n + 5) 0 1 (.kn 1), .sl (H.n + 6) 0 1 (.kn 1), .lit (.int .i64 0)], [.lit (.int .i64 2), .sl (H.n + 9) 0 2 (.kn 2), .sl (H.n + 5) 0 1 (.kn 1), .sl (H.n + 6) 0 1 (.kn 1), .lit (.int .i64 0)]]) A10 (by omega) ((Els.nil.snoc rm1).snoc rm2) rfl
  rw [hbs] at hh
  exact hh
end Go.Proofs.Ytkgbeihcepociaa.Ex
end

section

set_option linter.unusedSimpArgs false
set_option linter.unusedVariables false
set_option maxRecDepth 10000
set_option maxHeartbeats 4000000
namespace Go.Proofs.Ytkgbeihcepociaa.Ex
open Go
theorem two_ok : ∀ m ∈ twoD, OkMp m := by
  intro m hm
  simp only [twoD, List.mem_cons, List.not_mem_nil, or_false] at hm
  rcases hm with rfl | rfl
  all_goals
    refine ⟨⟨by unfold Sm; decide, fun _ _ => trivial⟩, ⟨by unfold Sm; decide, fun _ _ => trivial⟩, ⟨by unfold Sm; decide, fun y hy => ?_⟩⟩
    have hy : y ∈ [bktT] := hy
    rw [List.mem_singleton] at hy
    subst hy
    exact ⟨by unfold Sm; decide, by unfold Sm; decide⟩
theorem two_ivs : (ivsF 1 0 twoD).map (fun x => (x.first, x.last, x.mayRw)) = [(1, 1, true), (2, 2, false)] := by decide +kernel
theorem two_first : firstF 1 0 twoD = 2 := by decide +kernel
theorem two_prior : (priorF 0 (ivsF 1 0 twoD)).length = 1 := by decide +kernel
theorem lives15_x {H : AH} : WC Try.prog (tabOf Try.prog NT0) S0 31 [] H fun r h' => Ext H.n H h' ∧ r = .lit (.bool true) := by
  refine WC_fn Try.func31 rfl rfl ?_
  simp only [core, Nat.reduceAdd, Nat.reduceSub, Nat.reduceMul, Nat.reduceLT, Nat.reduceEqDiff, reduceCtorEq, Nat.reduceLeDiff, Int.reduceLE, Int.reduceLT, Int.reduceToNat, Try.ntmps31]
  obtain ⟨h1, hh1⟩ : ∃ h1, h1 = H.push (.cells [.lit (.int .i64 1), .lit (.int .i64 0)] 56) := ⟨_, rfl⟩
  have E1 : Ext H.n H h1 := hh1 ▸ (Ext.refl _ _).push _ (Nat.le_refl _)
  have P1 : h1.at H.n = some (.cells [.lit (.int .i64 1), .lit (.int .i64 0)] 56) := hh1 ▸ at_push_n _ _
  rw [← hh1]
  clear hh1
  have lp1 := at_lt P1
  have LP1 := ld_at (T := tabOf Try.prog NT0) P1
  rw [WB_regionD [1, 0, 2, 3] 29440 (by kernel_rfl)]
  repeat ((with_reducible refine WDM_cons ?_; simp only [dw1]; try simp only [dw2, Nat.reduceAdd, Nat.reduceMul, Nat.reduceShiftRight, Nat.reduceMod, Nat.reduceEqDiff]); simp only [core, Nat.reduceAdd, Nat.reduceSub, Nat.reduceMul, Nat.reduceLT, Nat.reduceEqDiff, reduceCtorEq, Nat.reduceLeDiff, Int.reduceLE, Int.reduceLT, Int.reduceToNat, cored, LP1, lp1])
  refine two_x.mono ?_
  rintro v h2 ⟨e2, hv⟩
  have E2 := E1.step e2
  have P2 := (e2.2 _ lp1).trans P1
  have lp2 := at_lt P2
  have LP2 := ld_at (T := tabOf Try.prog NT0) P2
  have v1 := hv.isSl
  repeat ((with_reducible refine WDM_cons ?_; simp only [dw1]; try simp only [dw2, Nat.reduceAdd, Nat.reduceMul, Nat.reduceShiftRight, Nat.reduceMod, Nat.reduceEqDiff]); simp only [core, Nat.reduceAdd, Nat.reduceSub, Nat.reduceMul, Nat.reduceLT, Nat.reduceEqDiff, reduceCtorEq, Nat.reduceLeDiff, Int.reduceLE, Int.reduceLT, Int.reduceToNat, cored, LP2, lp2, v1])
  refine (all_x 1 0 hv (by unfold Sm; decide) two_ok).mono ?_
  rintro r h3 ⟨e3, n0, -, ho⟩
  have E3 := E2.step e3
  have r1 := ho.isSl
  have r2 := ho.lenD
  have hr := ho.toSl (F := fun _ => True) (fun _ _ => trivial) (fun _ _ => trivial)
  obtain ⟨xs, hxs⟩ : ∃ xs, xs = ivsF 1 0 twoD := ⟨_, rfl⟩
  have hmap := two_ivs
  have hpr := two_prior
  have hac := fun x hx => ivs_ok (pool := 1) (seed := 0) (ms := twoD) x hx
  rw [← hxs] at hr r2 hmap hpr hac
  obtain ⟨x, y, rfl⟩ : ∃ x y, xs = [x, y] := by
    match xs, hmap with
    | [x, y], _ => exact ⟨x, y, rfl⟩
    | [], h => simp at h
    | [_], h => simp at h
    | _ :: _ :: _ :: _, h => simp at h
  simp only [List.map_cons, List.map_nil, List.cons.injEq, Prod.mk.injEq, and_true] at hmap
  obtain ⟨⟨f1, f2, f3⟩, g1, g2, g3⟩ := hmap
  obtain ⟨c, hc1, hld, hld0⟩ := hr.at (T := tabOf Try.prog NT0) RIv_z (i := 0) rfl
  obtain ⟨va, vb, rfl, -⟩ := RIv_is.1 hc1
  obtain ⟨c, hc2, hld', hld0'⟩ := hr.at (T := tabOf Try.prog NT0) RIv_z (i := 1) rfl
  obtain ⟨ua, ub, rfl, -⟩ := RIv_is.1 hc2
  simp only [Nat.zero_mul, Nat.add_zero, Nat.one_mul, f1, f2, f3, g3] at hld hld0 hld' hld0'
  have r2 : lenD r = 2 := r2
  have P3 := (e3.2 _ lp2).trans P2
  have lp3 := at_lt P3
  repeat ((with_reducible refine WDM_cons ?_; simp only [dw1]; try simp only [dw2, Nat.reduceAdd, Nat.reduceMul, Nat.reduceShiftRight, Nat.reduceMod, Nat.reduceEqDiff]); simp only [core, Nat.reduceAdd, Nat.reduceSub, Nat.reduceMul, Nat.reduceLT, Nat.reduceEqDiff, reduceCtorEq, Nat.reduceLeDiff, Int.reduceLE, Int.reduceLT, Int.reduceToNat, cored, r1])
  rw [WB_regionD [0, 1, 2, 3, 4, 5, 6, 7, 8, 9, 10, 11, 12, 13, 14, 15, 16, 17, 18, 19, 20, 21, 22, 23, 24, 25, 26, 27, 28, 29, 30, 31, 32, 33, 34, 35, 36, 38, 37, 39, 40, 41, 42] 20110922251646537642132421906151569872943364259989109016880945412238388916792015009970852157851158110947368603491339289596345835558468903417571743530785022850888530136036152000767647319844125367678496370972940275815732132005785689859647616858718016294671913686963794017969212488819327369349009283321050081721442510910207782513382829651839254863670035665280922732301997373115565987903096236233199972629241155340038622978175260730195761315607033448893122584077788098250363931884127106218521008806390542039810619045307074896813133560438831211869258899880148992 (by kernel_rfl)]
  have hk : (((2 : Nat) : Int) == 2) = true := rfl
  have hk1 : ((1 : Int) == 1) = true := rfl
  have hk2 : 0 < 2 := by decide
  have hk3 : 1 < 2 := by decide
  repeat ((with_reducible refine WDM_cons ?_; simp only [dw1]; try simp only [dw2, Nat.reduceAdd, Nat.reduceMul, Nat.reduceShiftRight, Nat.reduceMod, Nat.reduceEqDiff]); simp only [core, Nat.reduceAdd, Nat.reduceSub, Nat.reduceMul, Nat.reduceLT, Nat.reduceEqDiff, reduceCtorEq, Nat.reduceLeDiff, Int.reduceLE, Int.reduceLT, Int.reduceToNat, cored, r1, r2, hk, hk1, hk2, hk3, hld, hld0, hld', hld0'])
  refine (prior_x 0 hr (by show 2 * 72 ≤ _; decide) (fun z hz => by have := hac z hz; omega)).mono ?_
  rintro q h4 ⟨e4, hq⟩
  have E4 := E3.step e4
  have q1 := hq.isSl
  have q2 := hq.lenD
  rw [hpr] at q2
  have P4 := (e4.2 _ lp3).trans P3
  have lp4 := at_lt P4
  have LP4 := ld_at (T := tabOf Try.prog NT0) P4
  have hk4 : (((1 : Nat) : Int) == 1) = true := rfl
  repeat ((with_reducible refine WDM_cons ?_; simp only [dw1]; try simp only [dw2, Nat.reduceAdd, Nat.reduceMul, Nat.reduceShiftRight, Nat.reduceMod, Nat.reduceEqDiff]); simp only [core, Nat.reduceAdd, Nat.reduceSub, Nat.reduceMul, Nat.reduceLT, Nat.reduceEqDiff, reduceCtorEq, Nat.reduceLeDiff, Int.reduceLE, Int.reduceLT, Int.reduceToNat, cored, q1, q2, hk4, LP4, lp4])
  refine two_x.mono ?_
  rintro v' h5 ⟨e5, hv'⟩
  have E5 := E4.step e5
  have P5 := (e5.2 _ lp4).trans P4
  have lp5 := at_lt P5
  have LP5 := ld_at (T := tabOf Try.prog NT0) P5
  have v1' := hv'.isSl
  repeat ((with_reducible refine WDM_cons ?_; simp only [dw1]; try simp only [dw2, Nat.reduceAdd, Nat.reduceMul, Nat.reduceShiftRight, Nat.reduceMod, Nat.reduceEqDiff]); simp only [core, Nat.reduceAdd, Nat.reduceSub, Nat.reduceMul, Nat.reduceLT, Nat.reduceEqDiff, reduceCtorEq, Nat.reduceLeDiff, Int.reduceLE, Int.reduceLT, Int.reduceToNat, cored, LP5, lp5, v1'])
  refine (first_x 1 0 hv' (by unfold Sm; decide) two_ok).mono ?_
  rintro _ h6 ⟨e6, rfl⟩
  rw [two_first]
  have hk5 : ((2 : Int) == 2) = true := rfl
  repeat ((with_reducible refine WDM_cons ?_; simp only [dw1]; try simp only [dw2, Nat.reduceAdd, Nat.reduceMul, Nat.reduceShiftRight, Nat.reduceMod, Nat.reduceEqDiff]); simp only [core, Nat.reduceAdd, Nat.reduceSub, Nat.reduceMul, Nat.reduceLT, Nat.reduceEqDiff, reduceCtorEq, Nat.reduceLeDiff, Int.reduceLE, Int.reduceLT, Int.reduceToNat, cored, hk5])
  exact E5.step e6
end Go.Proofs.Ytkgbeihcepociaa.Ex
end

section

set_option linter.unusedSimpArgs false
set_option linter.unusedVariables false
namespace Go.Proofs.Ytkgbeihcepociaa.Ex
open Go Go.RowKit Go.ChangeShapes Go.WideShapes Go.ChangeAt
theorem rels_absV {ρ : Nat → Value} {w : World} : ∀ {cs : List Value}, (∀ c ∈ cs, c.oneCell' = true) → rels ρ (mu0 w) w (cs.map (absV w)) cs
  | [], _ => rels_nil
  | c :: r, h => rels_cons (absV_rel (h c (by simp))) (rels_absV fun x hx => h x (by simp [hx]))
theorem law_join {W : World} {f : FuncId} {vs : List Value} {avs : List AV} (ha : rels (fun _ => default) (mu0 W) W avs vs) (hw : WC Try.prog (tabOf Try.prog NT0) S0 f avs (absH W) fun v h' => v = .lit (.bool true)) :
    Calls Try.prog f vs.toArray W fun e w' => e = .returned (.bool true) ∧ Below W.heap.size W w' := by
  obtain ⟨n, o, h1, hex, v, cm, rfl, rfl⟩ := hw
  refine (ex_callsH tab_sound noNG follows_mixed (sums_ok _ _) (absH_hr W) (absH_nw W) hex ha).mono fun e w' hy => ?_
  obtain ⟨v', μ', rfl, hb, hv⟩ := hy
  exact ⟨by rw [rel_bool_inv hv], hb⟩
theorem open_agg {P : Program} {H : Type} {enc : TypeId × Value → H} {W : World} {base : Nat} {t : TypeId} {v0 : Value} {d0 : DataW H} {p0 : List MemPlace} {d : TypeDesc} {α : Type} {R : Rep α} {B : α → Prop} (hO : OpensA enc P W t R B) (hu : P.underlying t = some d) (hd : isAggD d = true)
    (k0 : Value.okWide P W .any base t v0) (h0 : DataW.Trod enc P W 0 (fun _ => true) true t v0 d0 p0) (hw : ∀ n ∈ d0.weights P t, n ≤ reachBytes) :
    ∃ (cs : List AV) (y : α), rel (fun _ => default) (mu0 W) W (.agg cs) v0 ∧ R.is (InH W) (absH W) cs y ∧ B y := by
  obtain ⟨cs, rfl, h1, h2⟩ := okWide_agg hu hd k0
  obtain ⟨fuel, hf⟩ := h0
  obtain ⟨h3, h4, y, h5, h6⟩ := hO.2 fuel cs.toList _ hf (List.all_eq_true.2 fun n hn => (by simpa using hw n hn))
  refine ⟨_, y, ?_, h5, h6⟩
  unfold rel
  exact ⟨cs.toList, by simp, rels_absV h4⟩
end Go.Proofs.Ytkgbeihcepociaa.Ex
end

section

set_option linter.unusedSimpArgs false
set_option linter.unusedVariables false
namespace Go.Proofs.Ytkgbeihcepociaa.Ex
open Go Go.RowKit Go.ChangeShapes Go.WideShapes Go.ChangeAt
theorem open_sl {P : Program} {H : Type} {enc : TypeId × Value → H} {W : World} {base : Nat} {t e : TypeId} {v0 : Value} {d0 : DataW H} {p0 : List MemPlace} {α : Type} {R : Rep α} {B : List α → Prop} (hO : OpensA enc P W t (RSl R) B) (hu : P.underlying t = some (.slice e))
    (k0 : Value.okWide P W .any base t v0) (h0 : DataW.Trod enc P W 0 (fun _ => true) true t v0 d0 p0) (hw : ∀ n ∈ d0.weights P t, n ≤ reachBytes) :
    ∃ (v : AV) (ys : List α), rel (fun _ => default) (mu0 W) W v v0 ∧ IsSl R (InH W) (absH W) v ys ∧ B ys := by
  obtain ⟨a, len, cap, rfl⟩ := okWide_slice hu k0
  obtain ⟨fuel, hf⟩ := h0
  obtain ⟨h3, h4, y, h5, h6⟩ := hO.2 fuel [Value.slice a len cap] _ hf (List.all_eq_true.2 fun n hn => (by simpa using hw n hn))
  obtain ⟨v', e', h5⟩ := RSl_is.1 h5
  cases e'
  exact ⟨_, y, absV_rel (h4 _ (by simp)), h5, h6⟩
end Go.Proofs.Ytkgbeihcepociaa.Ex
end

section

set_option linter.unusedSimpArgs false
set_option linter.unusedVariables false
set_option maxRecDepth 10000
set_option maxHeartbeats 4000000
namespace Go.Proofs.Ytkgbeihcepociaa.Ex
open Go
/-- A slice of numbers of the run's own, or an empty one without room. -/
def DnI (n0 : Nat) (h : AH) (d : AV) (xs : List Int) : Prop := OwnL RInt (fun _ => False) n0 h d 3 xs ∨ (xs = [] ∧ ∃ p, n0 ≤ p ∧ d = .sl p 0 0 (.kn 0) ∧ h.at p = some (.cells [] 3))
theorem DnI.ext {n0 m : Nat} {h h' : AH} {d : AV} {xs : List Int} (hd : DnI n0 h d xs) (he : Ext m h h') (hm : h.n ≤ m) : DnI n0 h' d xs := by
  rcases hd with ho | ⟨rfl, p, hp, rfl, hat⟩
  · exact .inl (ho.ext he hm)
  · exact .inr ⟨rfl, p, hp, rfl, (he.2 _ (by have := at_lt hat; omega)).trans hat⟩
theorem DnI.toSl {F : Nat → Prop} {n0 : Nat} {h : AH} {d : AV} {xs : List Int} (hd : DnI n0 h d xs) (h1 : ∀ b, n0 ≤ b → F b) : IsSl RInt F h d xs := by
  rcases hd with ho | ⟨rfl, p, hp0, rfl, hp⟩
  · exact ho.toSl (fun _ hf => hf.elim) h1
  · exact .mk (L := []) ⟨by simp, .inr ⟨p, 0, _, [], rfl, by unfold getR; rw [hp], by simp [cut]⟩⟩ (fun b off n cap e => by cases e; exact h1 _ hp0) (fun b off n cap e => by cases e; exact Nat.le_refl 0) .nil
theorem DnI.snoc {n0 q : Nat} {h : AH} {d : AV} {xs : List Int} {y : Int} {cap : Cap} {e' : TypeId} (hd : DnI n0 h d xs) (hq : h.at q = some (.cells [.lit (.int .i64 y)] e')) (hy : I64 y) (hn : (xs.length + 1) * 8 ≤ 140737488355328) (hn0 : n0 ≤ h.n) :
    ∃ s' h', appendA (tabOf Try.prog NT0) h 63 63 d (.sl q 0 1 cap) = some (s', h') ∧ DnI n0 h' s' (xs ++ [y]) ∧ Ext n0 h h' ∧ ∀ b, b < h.n → Apart d b → h'.at b = h.at b ∧ Apart s' b := by
  rcases hd with ho | ⟨rfl, p, hp0, rfl, hp⟩
  · obtain ⟨s', h', a, b, c, k⟩ := ho.snoc (by kernel_rfl) (by kernel_rfl) (by kernel_rfl) (zv := .lit (.int .i64 0)) (by kernel_rfl) (by' := 8) (by kernel_rfl) rfl (by decide) (by decide) hq (RInt_is.2 ⟨rfl, hy⟩) (by omega) hn hn0
    exact ⟨s', h', a, .inl b, c, k⟩
  · have hg : getR h q = some [.lit (.int .i64 y)] := by unfold getR; rw [hq]
    rcases append_fresh (T := tabOf Try.prog NT0) (h := h) (t := 63) (tx := 63) (e := 3) (z := 1) (by' := 8) (zv := .lit (.int .i64 0)) (M := [[.lit (.int .i64 y)]]) (p := p) (x := .sl q 0 1 cap) (by kernel_rfl) (by kernel_rfl) (by kernel_rfl) (by kernel_rfl) (by kernel_rfl) rfl (by decide) (by decide) hp
      (by simp [srcA, hg, cut]) rfl (by simp) rfl (by simp) (by simp) with ⟨hM, ha⟩ | ⟨hM, ha⟩
    · cases hM
    · exact ⟨_, _, ha, .inl (OwnL.ofInts (xs := [y]) hn0 (at_push_n _ _) (fun x hx => by rw [List.mem_singleton] at hx; subst hx; exact hy)), (Ext.refl _ _).push _ hn0, fun b hb _ => ⟨at_push_lt _ hb, fun off n cap e => by cases e; omega⟩⟩
/-- What is appended to an empty slice without room. -/
theorem dn_ints {n0 : Nat} {F : Nat → Prop} {H : AH} {v : AV} {xs : List Int} {p : Nat} (hv : IsSl RInt F H v xs) (hl : xs.length * 8 ≤ 140737488355328) (hp : H.at p = some (.cells [] 3)) (hp0 : n0 ≤ p) (hn0 : n0 ≤ H.n) :
    ∃ s' h', appendA (tabOf Try.prog NT0) H 63 63 (.sl p 0 0 (.kn 0)) v = some (s', h') ∧ DnI n0 h' s' xs ∧ Ext H.n H h' := by
  obtain ⟨L, h1, h2, h3, h4⟩ := hv.out
  have e0 := h4.1
  rcases append_fresh (T := tabOf Try.prog NT0) (h := H) (t := 63) (tx := 63) (e := 3) (z := 1) (by' := 8) (zv := .lit (.int .i64 0)) (M := L) (p := p) (x := v) (by kernel_rfl) (by kernel_rfl) (by kernel_rfl) (by kernel_rfl) (by kernel_rfl) rfl (by decide) (by decide) hp
      h1.src h1.len h4.lens h4.ones (by omega) (by rw [e0]; exact hl) with ⟨hM, ha⟩ | ⟨hM, ha⟩
  · subst hM
    obtain rfl : xs = [] := List.eq_nil_of_length_eq_zero (by rw [← e0]; rfl)
    exact ⟨_, _, ha, .inr ⟨rfl, p, hp0, rfl, hp⟩, Ext.refl _ _⟩
  · refine ⟨_, _, ha, .inl ⟨L, ⟨h4.lens, .inr ⟨H.n, rfl, hn0, at_push_n _ _⟩⟩, ⟨e0, fun i c x a b => ?_⟩⟩, (Ext.refl _ _).push _ (Nat.le_refl _)⟩
    obtain ⟨rfl, hx⟩ := RInt_is.1 (h4.2 i c x a b)
    exact RInt_is.2 ⟨rfl, hx⟩
theorem clone_o {F : Nat → Prop} {H : AH} {v : AV} {xs : List Int} (hv : IsSl RInt F H v xs) (hl : xs.length * 8 ≤ 140737488355328) :
    WC Try.prog (tabOf Try.prog NT0) S0 88 [v] H fun r h' => Ext H.n H h' ∧ DnI H.n h' r xs := by
  refine WC_fn Try.func88 rfl rfl ?_
  have s1 := hv.isSl
  have s2 := hv.lenD
  simp only [core, Nat.reduceAdd, Nat.reduceSub, Nat.reduceMul, Nat.reduceLT, Nat.reduceEqDiff, reduceCtorEq, Nat.reduceLeDiff, Int.reduceLE, Int.reduceLT, Int.reduceToNat, Try.ntmps88, s1, s2]
  refine ⟨fun he => ?_, fun he => ?_⟩
  · obtain rfl := hv.empty he
    exact ⟨Ext.refl _ _, .inl OwnL.nil⟩
  · have hv2 : IsSl RInt F (H.push (.cells [] 3)) v xs := hv.ext ((Ext.refl H.n H).push _ (Nat.le_refl _)) (Nat.le_refl _)
    refine WOp_app (dn_ints (n0 := H.n) hv2 hl (at_push_n H _) (Nat.le_refl _) (by rw [n_push]; omega)) ?_
    rintro s' h' ⟨e1, e2⟩
    simp only [core, Nat.reduceAdd, Nat.reduceSub, Nat.reduceMul, Nat.reduceLT, Nat.reduceEqDiff, reduceCtorEq, Nat.reduceLeDiff, Int.reduceLE, Int.reduceLT, Int.reduceToNat]
    exact ⟨((Ext.refl H.n H).push _ (Nat.le_refl _)).trans (e2.mono (by rw [n_push]; omega)), e1⟩
theorem DnI.lt {n0 : Nat} {h : AH} {d : AV} {xs : List Int} (hd : DnI n0 h d xs) {b : Nat} (hb : h.n ≤ b) : Apart d b := by
  rcases hd with ho | ⟨rfl, p, hp, rfl, hat⟩
  · exact ho.apart hb
  · have := at_lt hat
    exact fun off n cap e => by cases e; omega
/-- Is an osd of a map there and up? -/
def upM (m : MapD) (o : Int) : Bool := match m.osds[o.toNat]? with
  | some y => y.ex && y.up
  | none => false
def askS (les : Int) (xs : List IvD) (m : MapD) (j : Nat) : List Int := ((priorF les xs).take j).flatMap fun x => x.acting.filter (upM m)
def askG (les : Int) (xs : List IvD) (m : MapD) : List Int := match xs.getLast? with
  | none => []
  | some y => cmpI (srtI (y.acting ++ askS les xs m (priorF les xs).length))
theorem askS_succ {les : Int} {xs : List IvD} {m : MapD} {j : Nat} {x : IvD} (hx : (priorF les xs)[j]? = some x) : askS les xs m (j + 1) = askS les xs m j ++ x.acting.filter (upM m) := by
  unfold askS
  rw [List.take_add_one, hx, List.flatMap_append]
  simp
theorem ivs_nat {pool seed : Int} {ms : List MapD} : ∀ x ∈ ivsF pool seed ms, ∀ o ∈ x.acting, ∃ k : Nat, o = (k : Int) := fun x hx o ho => by
  unfold ivsF at hx
  obtain ⟨r, -, rfl⟩ := List.mem_map.1 hx
  unfold ivOf at ho
  obtain ⟨k, y, hk, -⟩ := able_inv (actF_able o ho)
  exact ⟨k, hk⟩
theorem cmp_nil : cmpI (srtI []) = [] := by
  have : srtI [] = [] := by unfold srtI; simp
  rw [this]
  rfl
/-- Sorted, and without what stands twice. -/
theorem srt_cmp {H : AH} {n0 : Nat} {d : AV} {L : List Int} (hd : DnI n0 H d L) (hl : L.length ≤ 4611686018427387903) (hI : ∀ x ∈ L, I64 x) {Q : AV → AH → Prop}
    (hq : ∀ r h', Ext n0 H h' → IsSl RInt (fun b => n0 ≤ b) h' r (cmpI (srtI L)) → Q r h') :
    WC Try.prog (tabOf Try.prog NT0) S0 89 [d] H fun r h1 => r = .tup [] ∧ WC Try.prog (tabOf Try.prog NT0) S0 90 [d] h1 Q := by
  rcases hd with ho | ⟨rfl, p, hp, rfl, hat⟩
  · by_cases hne : L = []
    · subst hne
      obtain ⟨L', h1', h2'⟩ := ho
      have hL : L' = [] := List.eq_nil_of_length_eq_zero h2'.1
      subst hL
      rcases h1'.2 with ⟨rfl, _⟩ | ⟨p, rfl, hp, hat⟩
      · refine sort_nil_c ⟨rfl, ?_⟩
        refine compact_nil_c (hq _ _ (Ext.refl _ _) ?_)
        rw [cmp_nil]
        exact IsSl.nil
      · refine sort_zero_c ⟨rfl, ?_⟩
        refine compact_zero_c (hq _ _ (Ext.refl _ _) ?_)
        have hat' : H.at p = some (.cells (iL []) 3) := hat
        rw [cmp_nil]
        exact (OwnL.ofInts (n0 := n0) (G := fun _ => False) hp hat' (fun y hy => by cases hy)).toSl (fun _ hf => hf.elim) (fun b hb => hb)
    · obtain ⟨p, rfl, hp, hat, -⟩ := ho.ints hne
      refine sort_c hat hne hl ⟨rfl, ?_⟩
      obtain ⟨h2, hh2⟩ : ∃ h2, h2 = H.put p (.cells (iL (srtI L)) 3) := ⟨_, rfl⟩
      have hat2 : h2.at p = some (.cells (iL (srtI L)) 3) := hh2 ▸ at_put_same _ (at_lt hat)
      have E2 : Ext n0 H h2 := hh2 ▸ (Ext.refl _ _).put _ hp
      rw [← hh2]
      clear hh2
      have hsl : (srtI L).length = L.length := by unfold srtI; simp
      have hne2 : srtI L ≠ [] := fun hh => hne (List.eq_nil_of_length_eq_zero (by rw [← hsl, hh]; rfl))
      have hI2 : ∀ x ∈ cmpO (srtI L), I64 x := fun x hx => by
        unfold cmpO at hx
        rcases List.mem_append.1 hx with hx | hx
        · refine hI x ?_
          have : x ∈ srtI L := by
            unfold cmpI Lib.compact Lib.compactUpTo at hx
            obtain ⟨j, hj, rfl⟩ := List.mem_map.1 hx
            have hj := List.mem_range.1 (List.mem_filter.1 hj).1
            rw [show (srtI L).toArray[j]! = (srtI L)[j] by simp [List.getElem!_eq_getElem?_getD, hj]]
            exact List.getElem_mem _
          unfold srtI at this
          exact (List.mergeSort_perm _ _).mem_iff.1 this
        · obtain ⟨-, rfl⟩ := List.mem_replicate.1 hx
          exact ⟨by decide, by decide⟩
      rw [← hsl]
      refine compact_c hat2 hne2 (by omega) (hq _ _ (E2.put _ hp) ?_)
      have hat3 := at_put_same (.cells (iL (cmpO (srtI L))) 3) (at_lt hat2)
      have ho3 := (OwnL.ofInts (n0 := n0) (G := fun _ => False) hp hat3 hI2).toSl (F := fun b => n0 ≤ b) (fun _ hf => hf.elim) (fun b hb => hb)
      have hcl := cmpI_le (srtI L)
      have hs := ho3.sub (l := 0) (r := (cmpI (srtI L)).length) (by omega) (by rw [cmpO_len]; exact hcl)
      have e1 : ((cmpO (srtI L)).take (cmpI (srtI L)).length).drop 0 = cmpI (srtI L) := by
        unfold cmpO
        rw [List.drop_zero, List.take_append_of_le_length (Nat.le_refl _), List.take_length]
      rw [e1] at hs
      have e2 : subSl RInt.z 0 (cmpI (srtI L)).length (.sl p 0 (cmpO (srtI L)).length (.un 1)) = .sl p 0 (cmpI (srtI L)).length (.un 1) := by simp [subSl, subCap]
      rw [e2] at hs
      exact hs
  · refine sort_zero_c ⟨rfl, ?_⟩
    refine compact_zero_c (hq _ _ (Ext.refl _ _) ?_)
    rw [cmp_nil]
    exact (DnI.toSl (.inr ⟨rfl, p, hp, rfl, hat⟩) (fun b hb => hb) : IsSl RInt (fun b => n0 ≤ b) H (.sl p 0 0 (.kn 0)) [])
theorem IsSl.ldF {α : Type} {R : Rep α} {T : TT} {F : Nat → Prop} {H h : AH} {v : AV} {xs : List α} (hs : IsSl R F H v xs) (h0 : 0 < xs.length) (hk : ∀ b, F b → b < H.n → h.at b = H.at b) : ∀ e off, loadA T h e (slB v) off = loadA T H e (slB v) off := fun e off => by
  obtain ⟨L, h1, hf, _, h3⟩ := hs.out
  rcases h1.2 with ⟨rfl, rfl⟩ | ⟨b, o, cap, row, rfl, h4, h5⟩
  · have := h3.1
    simp at this
    omega
  · have := hk b (hf _ _ _ _ rfl) (getR_lt h4)
    simp only [slB, loadA, getR, this]
theorem ask_x {F : Nat → Prop} {H : AH} {v : AV} {ms : List MapD} (pool seed les : Int) (hv : IsSl RMp F H v ms) (hl : Sm 88 ms) (hok : ∀ m ∈ ms, OkMp m) :
    WC Try.prog (tabOf Try.prog NT0) S0 41 [v, pgV pool seed, .lit (.int .i64 les)] H fun r h' => Ext H.n H h' ∧ IsSl RInt (fun b => H.n ≤ b) h' r (askG les (ivsF pool seed ms) (ms.getD (ms.length - 1) map0)) := by
  refine WC_fn Try.func41 rfl rfl ?_
  have hl' := hl
  unfold Sm at hl'
  have s1 := hv.isSl
  have s2 := hv.lenD
  simp only [core, Nat.reduceAdd, Nat.reduceSub, Nat.reduceMul, Nat.reduceLT, Nat.reduceEqDiff, reduceCtorEq, Nat.reduceLeDiff, Int.reduceLE, Int.reduceLT, Int.reduceToNat, Try.ntmps41, pgV, s1, s2]
  obtain ⟨h1, hh1⟩ : ∃ h1, h1 = H.push (pgB pool seed) := ⟨_, rfl⟩
  have E1 : Ext H.n H h1 := hh1 ▸ (Ext.refl _ _).push _ (Nat.le_refl _)
  unfold pgB at hh1
  rw [← hh1]
  clear hh1
  refine (all_x pool seed (hv.ext E1 (Nat.le_refl _)) hl hok).mono ?_
  rintro r h2 ⟨e2, n0, hn0, hown⟩
  have E2 := E1.step e2
  have hil := ivsF_len (pool := pool) (seed := seed) (ms := ms)
  have hac := fun x hx => ivs_ok (pool := pool) (seed := seed) (ms := ms) x hx
  have hnat := fun x hx => ivs_nat (pool := pool) (seed := seed) (ms := ms) x hx
  have hnil : ms = [] → ivsF pool seed ms = [] := fun h => by subst h; rfl
  generalize ivsF pool seed ms = xs at hown hil hac hnat hnil
  have r1 := hown.isSl
  have r2 := hown.lenD
  have hr := hown.toSl (F := fun b => H.n ≤ b) (fun b hb => Nat.le_trans E1.1 (Nat.le_trans hn0 hb)) (fun b hb => Nat.le_trans E1.1 (Nat.le_trans hn0 hb))
  simp only [core, Nat.reduceAdd, Nat.reduceSub, Nat.reduceMul, Nat.reduceLT, Nat.reduceEqDiff, reduceCtorEq, Nat.reduceLeDiff, Int.reduceLE, Int.reduceLT, Int.reduceToNat, r1, r2]
  refine ⟨fun he => ?_, fun he => ?_⟩
  · obtain rfl : xs = [] := List.eq_nil_of_length_eq_zero (by have := eq_of_beq he; omega)
    exact ⟨E2, IsSl.nil⟩
  have hpos : 0 < xs.length := by have := beq_eq_false_iff_ne.1 he; omega
  have hmp : 0 < ms.length := List.length_pos_iff.2 fun hh => by rw [hnil hh] at hpos; simp at hpos
  obtain ⟨y, hy⟩ : ∃ y, xs[xs.length - 1]? = some y := ⟨_, List.getElem?_eq_getElem (by omega)⟩
  have hlast : xs.getLast? = some y := by rw [List.getLast?_eq_getElem?]; exact hy
  obtain ⟨m, hm⟩ : ∃ m, ms[ms.length - 1]? = some m := ⟨_, List.getElem?_eq_getElem (by omega)⟩
  have hmd : ms.getD (ms.length - 1) map0 = m := by rw [List.getD_eq_getElem?_getD, hm]; rfl
  have hlt1 : ms.length - 1 < ms.length := by omega
  have hw1 : IntKind.i64.wrap ((ms.length : Int) - 1) = ((ms.length - 1 : Nat) : Int) := (wrap_in (by omega) (by omega)).trans (by omega)
  have hlt2 : xs.length - 1 < xs.length := by omega
  have hw2 : IntKind.i64.wrap ((xs.length : Int) - 1) = ((xs.length - 1 : Nat) : Int) := (wrap_in (by omega) (by omega)).trans (by omega)
  obtain ⟨c, hc1, hld, hld0⟩ := hv.atE (T := tabOf Try.prog NT0) E2 RMp_z hm
  obtain ⟨vo, vp, vb, rfl, m1, m2, m3, -⟩ := RMp_is.1 hc1
  have i1 := m1.one
  have i2 := m2.one
  have i3 := m3.one
  have j1 := m1.isSl
  have k1 := m1.lenD
  obtain ⟨c, hcy, hldy, hldy0⟩ := hr.at (T := tabOf Try.prog NT0) RIv_z hy
  obtain ⟨ya, yb, rfl, hya, hyb, -, -⟩ := RIv_is.1 hcy
  have ldP := fun X => hr.ldE (T := tabOf Try.prog NT0) hpos ((Ext.refl h2.n h2).push X (Nat.le_refl _))
  have y1 := hya.isSl
  simp only [core, Nat.reduceAdd, Nat.reduceSub, Nat.reduceMul, Nat.reduceLT, Nat.reduceEqDiff, reduceCtorEq, Nat.reduceLeDiff, Int.reduceLE, Int.reduceLT, Int.reduceToNat, s1, s2, r1, r2, hlt1, hw1, hlt2, hw2, hld, hld0, i1, i2, i3, ldP, hldy, hldy0, y1]
  obtain ⟨h3, hh3⟩ : ∃ h3, h3 = h2.push (.cells [.lit (.int .i64 m.epoch), vo, vp, vb, .lit (.int .i64 m.leaf)] 31) := ⟨_, rfl⟩
  have e3 : Ext h2.n h2 h3 := hh3 ▸ (Ext.refl _ _).push _ (Nat.le_refl _)
  have B3 : h3.at h2.n = some (.cells [.lit (.int .i64 m.epoch), vo, vp, vb, .lit (.int .i64 m.leaf)] 31) := hh3 ▸ at_push_n _ _
  rw [← hh3]
  clear hh3
  have E3 := E2.step e3
  have hyac := hac y (List.mem_of_getElem? hy)
  refine (clone_o (hya.ext e3 (Nat.le_refl _)) (by omega)).mono ?_
  rintro d h4 ⟨e4, hd⟩
  have E4 := E3.step e4
  have d1 := (hd.toSl (F := fun _ => True) (fun _ _ => trivial)).isSl
  simp only [core, Nat.reduceAdd, Nat.reduceSub, Nat.reduceMul, Nat.reduceLT, Nat.reduceEqDiff, reduceCtorEq, Nat.reduceLeDiff, Int.reduceLE, Int.reduceLT, Int.reduceToNat, r1, d1]
  refine (prior_x les (hr.ext (e3.step e4) (Nat.le_refl _)) (by omega) (fun z hz => by have := hac z hz; omega)).mono ?_
  rintro q h5 ⟨e5, hq⟩
  have E5 := E4.step e5
  have q1 := hq.isSl
  have q2 := hq.lenD
  have e45 := e4.step e5
  have B5 := (e45.2 _ (at_lt B3)).trans B3
  have hpl : (priorF les xs).length ≤ xs.length := by
    have := List.length_filter_le (askF les) xs.dropLast
    rw [List.length_dropLast] at this
    exact Nat.le_trans this (by omega)
  have hb3 := at_lt B3
  have hn34 := e4.1
  have hn45 := e5.1
  have hdA : ∀ b, b < h5.n → h4.n ≤ b → Apart d b := fun b _ hb => hd.lt hb
  simp only [core, Nat.reduceAdd, Nat.reduceSub, Nat.reduceMul, Nat.reduceLT, Nat.reduceEqDiff, reduceCtorEq, Nat.reduceLeDiff, Int.reduceLE, Int.reduceLT, Int.reduceToNat, r1, q1, q2]
  refine WB_for (priorF les xs).length (fun j t h => (∃ d L, L = y.acting ++ askS les xs m j ∧ L.length ≤ 8 + 8 * j ∧ (∀ o ∈ L, I64 o) ∧ DnI h3.n h d L ∧ h5.n ≤ h.n ∧ (∀ b, b < h5.n → (b < h3.n ∨ h4.n ≤ b) → h.at b = h5.at b) ∧ (∀ b, b < h5.n → h4.n ≤ b → Apart d b) ∧ t.get 9 = d) ∧ t.n = 80 ∧ t.get 8 = .ptr h2.n 0 ∧ t.get 36 = q ∧ t.get 37 = .lit (.int .i64 (priorF les xs).length) ∧ t.get 38 = .lit (.int .i64 j)) ?_ ?_ _ _ ?_
  · rintro j t h hlt hc ⟨⟨d, L, hL, hLl, hLI, hd, n5, k5, kA, g9⟩, hn, g8, g36, g37, g38⟩ ih
    obtain ⟨x, hx⟩ : ∃ x, (priorF les xs)[j]? = some x := ⟨_, List.getElem?_eq_getElem hlt⟩
    have hxm : x ∈ xs := List.dropLast_subset _ (List.mem_filter.1 (List.mem_of_getElem? hx)).1
    have ldq := hq.ldF (T := tabOf Try.prog NT0) (h := h) (by omega) (fun b hb hlt => k5 b hlt (.inr hb))
    obtain ⟨c, hc1, hld, hld0⟩ := hq.at (T := tabOf Try.prog NT0) RIv_z hx
    obtain ⟨xa, xb, rfl, hxa, hxb, -, -⟩ := RIv_is.1 hc1
    have a1 := hxa.one
    have b1 := hxb.one
    have a2 := hxa.isSl
    have a3 := hxa.lenD
    have hxac := hac x hxm
    have hw := wrap_succ hlt (by omega)
    simp only [core, Nat.reduceAdd, Nat.reduceSub, Nat.reduceMul, Nat.reduceLT, Nat.reduceEqDiff, reduceCtorEq, Nat.reduceLeDiff, Int.reduceLE, Int.reduceLT, Int.reduceToNat, hn, g8, g36, g37, g38, g9, hlt, hc, q1, q2, ldq, hld, hld0, a1, b1, a2, a3]
    have hnx := hnat x hxm
    have hil5 := hil
    refine WB_for x.acting.length (fun k t h => (∃ d L, L = y.acting ++ askS les xs m j ++ (x.acting.take k).filter (upM m) ∧ L.length ≤ 8 + 8 * j + k ∧ (∀ o ∈ L, I64 o) ∧ DnI h3.n h d L ∧ h5.n ≤ h.n ∧ (∀ b, b < h5.n → (b < h3.n ∨ h4.n ≤ b) → h.at b = h5.at b) ∧ (∀ b, b < h5.n → h4.n ≤ b → Apart d b) ∧ t.get 9 = d) ∧ t.n = 80 ∧ t.get 8 = .ptr h2.n 0 ∧ t.get 36 = q ∧ t.get 37 = .lit (.int .i64 (priorF les xs).length) ∧ t.get 38 = .lit (.int .i64 j) ∧ t.get 43 = xa ∧ t.get 44 = .lit (.int .i64 x.acting.length) ∧ t.get 45 = .lit (.int .i64 k)) ?_ ?_ _ _ ?_
    · rintro k t h hlt3 hc3 ⟨⟨d, L, hL, hLl, hLI, hd, n5, k5, kA, g9⟩, hn, g8, g36, g37, g38, g43, g44, g45⟩ ih2
      obtain ⟨o, ho⟩ : ∃ o, x.acting[k]? = some o := ⟨_, List.getElem?_eq_getElem hlt3⟩
      obtain ⟨kk, rfl⟩ := hnx o (List.mem_of_getElem? ho)
      have hgd : x.acting.getD k 0 = (kk : Int) := by rw [List.getD_eq_getElem?_getD, ho]; rfl
      have hxh : IsSl RInt (fun _ => True) h xa x.acting := hxa.lift fun b hb hlt => ⟨k5 b hlt (.inr hb), trivial⟩
      have hldo := hxh.int (T := tabOf Try.prog NT0) (e := 3) (by kernel_rfl) (by kernel_rfl) hlt3
      rw [hgd] at hldo
      have I1 : I64 (kk : Int) := by have := hxh.i64 k hlt3; rw [hgd] at this; exact this
      have hw3 := wrap_succ hlt3 (by omega)
      have B := (k5 _ (by have := e45.1; omega) (.inl hb3)).trans B5
      have lb := at_lt B
      have LB := ld_at (T := tabOf Try.prog NT0) B
      have hflt : (x.acting.take (k + 1)).filter (upM m) = (x.acting.take k).filter (upM m) ++ (if upM m kk = true then [(kk : Int)] else []) := by
        rw [List.take_add_one, ho, List.filter_append]
        congr 1
        cases hh : upM m kk <;> simp [hh]
      have hup : upM m kk = (match m.osds[kk]? with | some z => z.ex && z.up | none => false) := rfl
      have hd1 := (hd.toSl (F := fun _ => True) (fun _ _ => trivial)).isSl
      have hd2 := (hd.toSl (F := fun _ => True) (fun _ _ => trivial)).one
      have EHh : Ext H.n H h := ⟨by have := E5.1; omega, fun b hb => (k5 b (by have := E5.1; omega) (.inl (by have := E3.1; omega))).trans (E5.2 b hb)⟩
      have skip : upM m kk = false → (y.acting ++ askS les xs m j ++ (x.acting.take (k + 1)).filter (upM m)) = L := fun hh => by rw [hflt, hh, hL]; simp
      by_cases c1 : kk < m.osds.length
      · obtain ⟨z, hz⟩ : ∃ z, m.osds[kk]? = some z := ⟨_, List.getElem?_eq_getElem c1⟩
        rw [hz] at hup
        have hup : upM m kk = (z.ex && z.up) := hup
        obtain ⟨cz, hcz, hldz, hldz0⟩ := m1.atE (T := tabOf Try.prog NT0) EHh ROsd_z hz
        obtain ⟨rfl, -⟩ := ROsd_is.1 hcz
        have hc1 : ((kk : Int) < (m.osds.length : Int)) = True := by simp only [eq_iff_iff, iff_true]; omega
        by_cases hex : z.ex = true
        case neg =>
          have hex : z.ex = false := by simpa using hex
          simp only [core, Nat.reduceAdd, Nat.reduceSub, Nat.reduceMul, Nat.reduceLT, Nat.reduceEqDiff, reduceCtorEq, Nat.reduceLeDiff, Int.reduceLE, Int.reduceLT, Int.reduceToNat, hn, g8, g36, g37, g38, g43, g44, g45, g9, hlt3, hc3, hw3, hldo, a2, a3, LB, lb, j1, k1, c1, hc1, hldz, hldz0, hex, aundef]
          refine ih2 _ _ ⟨⟨d, L, (skip (by rw [hup, hex]; rfl)).symm, by omega, hLI, hd, n5, k5, kA, by simp only [core, Nat.reduceAdd, Nat.reduceSub, Nat.reduceMul, Nat.reduceLT, Nat.reduceEqDiff, reduceCtorEq, Nat.reduceLeDiff, Int.reduceLE, Int.reduceLT, Int.reduceToNat, g9]⟩, by simp only [core, Nat.reduceAdd, Nat.reduceSub, Nat.reduceMul, Nat.reduceLT, Nat.reduceEqDiff, reduceCtorEq, Nat.reduceLeDiff, Int.reduceLE, Int.reduceLT, Int.reduceToNat, hn, g8, g36, g37, g38, g43, g44, g45]⟩
        by_cases hu : z.up = true
        case neg =>
          have hu : z.up = false := by simpa using hu
          simp only [core, Nat.reduceAdd, Nat.reduceSub, Nat.reduceMul, Nat.reduceLT, Nat.reduceEqDiff, reduceCtorEq, Nat.reduceLeDiff, Int.reduceLE, Int.reduceLT, Int.reduceToNat, hn, g8, g36, g37, g38, g43, g44, g45, g9, hlt3, hc3, hw3, hldo, a2, a3, LB, lb, j1, k1, c1, hc1, hldz, hldz0, hex, hu, aundef]
          refine ih2 _ _ ⟨⟨d, L, (skip (by rw [hup, hex, hu]; rfl)).symm, by omega, hLI, hd, n5, k5, kA, by simp only [core, Nat.reduceAdd, Nat.reduceSub, Nat.reduceMul, Nat.reduceLT, Nat.reduceEqDiff, reduceCtorEq, Nat.reduceLeDiff, Int.reduceLE, Int.reduceLT, Int.reduceToNat, g9]⟩, by simp only [core, Nat.reduceAdd, Nat.reduceSub, Nat.reduceMul, Nat.reduceLT, Nat.reduceEqDiff, reduceCtorEq, Nat.reduceLeDiff, Int.reduceLE, Int.reduceLT, Int.reduceToNat, hn, g8, g36, g37, g38, g43, g44, g45]⟩
        have hupt : upM m kk = true := by rw [hup, hex, hu]; rfl
        simp only [core, Nat.reduceAdd, Nat.reduceSub, Nat.reduceMul, Nat.reduceLT, Nat.reduceEqDiff, reduceCtorEq, Nat.reduceLeDiff, Int.reduceLE, Int.reduceLT, Int.reduceToNat, hn, g8, g36, g37, g38, g43, g44, g45, g9, hlt3, hc3, hw3, hldo, a2, a3, LB, lb, j1, k1, c1, hc1, hldz, hldz0, hex, hu, d1, hd1, hd2, aundef]
        obtain ⟨h6, hh6⟩ : ∃ h6, h6 = h.push (.cells [.lit (.int .i64 (kk : Int))] 3) := ⟨_, rfl⟩
        have e6 : Ext h.n h h6 := hh6 ▸ (Ext.refl _ _).push _ (Nat.le_refl _)
        have A6 : h6.at h.n = some (.cells [.lit (.int .i64 (kk : Int))] 3) := hh6 ▸ at_push_n _ _
        rw [← hh6]
        clear hh6
        have he6 := e6.1
        refine WOp_app ((hd.ext e6 (Nat.le_refl _)).snoc A6 I1 (by omega) (by omega)) ?_
        rintro s7 h7 ⟨hd7, e7, k7⟩
        have he7 := e7.1
        have s71 := (hd7.toSl (F := fun _ => True) (fun _ _ => trivial)).isSl
        simp only [core, Nat.reduceAdd, Nat.reduceSub, Nat.reduceMul, Nat.reduceLT, Nat.reduceEqDiff, reduceCtorEq, Nat.reduceLeDiff, Int.reduceLE, Int.reduceLT, Int.reduceToNat, hn, g8, g36, g37, g38, g43, g44, g45, hw3, s71]
        refine ih2 _ _ ⟨⟨s7, L ++ [(kk : Int)], ?_, by rw [List.length_append]; show L.length + 1 ≤ _; omega, ?_, hd7, by omega, fun b hb hbb => ?_, fun b hb hbb => ?_, by simp only [core, Nat.reduceAdd, Nat.reduceSub, Nat.reduceMul, Nat.reduceLT, Nat.reduceEqDiff, reduceCtorEq, Nat.reduceLeDiff, Int.reduceLE, Int.reduceLT, Int.reduceToNat, hn, g8, g36, g37, g38, g43, g44, g45]⟩, by simp only [core, Nat.reduceAdd, Nat.reduceSub, Nat.reduceMul, Nat.reduceLT, Nat.reduceEqDiff, reduceCtorEq, Nat.reduceLeDiff, Int.reduceLE, Int.reduceLT, Int.reduceToNat, hn, g8, g36, g37, g38, g43, g44, g45]⟩
        · rw [hflt, if_pos hupt, hL, List.append_assoc]
        · intro o' ho'
          rcases List.mem_append.1 ho' with ho' | ho'
          · exact hLI o' ho'
          · rw [List.mem_singleton] at ho'; rw [ho']; exact I1
        · rcases hbb with hbb | hbb
          · exact (e7.2 b hbb).trans ((e6.2 b (by omega)).trans (k5 b hb (.inl hbb)))
          · exact (k7 b (by omega) (kA b hb hbb)).1.trans ((e6.2 b (by omega)).trans (k5 b hb (.inr hbb)))
        · exact (k7 b (by omega) (kA b hb hbb)).2
      · have hc1 : ((kk : Int) < (m.osds.length : Int)) = False := by simp only [eq_iff_iff, iff_false]; omega
        have hno : m.osds[kk]? = none := List.getElem?_eq_none (by omega)
        rw [hno] at hup
        simp only [core, Nat.reduceAdd, Nat.reduceSub, Nat.reduceMul, Nat.reduceLT, Nat.reduceEqDiff, reduceCtorEq, Nat.reduceLeDiff, Int.reduceLE, Int.reduceLT, Int.reduceToNat, hn, g8, g36, g37, g38, g43, g44, g45, g9, hlt3, hc3, hw3, hldo, a2, a3, LB, lb, j1, k1, hc1, aundef]
        refine ih2 _ _ ⟨⟨d, L, (skip hup).symm, by omega, hLI, hd, n5, k5, kA, by simp only [core, Nat.reduceAdd, Nat.reduceSub, Nat.reduceMul, Nat.reduceLT, Nat.reduceEqDiff, reduceCtorEq, Nat.reduceLeDiff, Int.reduceLE, Int.reduceLT, Int.reduceToNat, g9]⟩, by simp only [core, Nat.reduceAdd, Nat.reduceSub, Nat.reduceMul, Nat.reduceLT, Nat.reduceEqDiff, reduceCtorEq, Nat.reduceLeDiff, Int.reduceLE, Int.reduceLT, Int.reduceToNat, hn, g8, g36, g37, g38, g43, g44, g45]⟩
    · rintro t h hc3 ⟨⟨d, L, hL, hLl, hLI, hd, n5, k5, kA, g9⟩, hn, g8, g36, g37, g38, g43, g44, g45⟩
      rw [List.take_length] at hL
      simp only [core, Nat.reduceAdd, Nat.reduceSub, Nat.reduceMul, Nat.reduceLT, Nat.reduceEqDiff, reduceCtorEq, Nat.reduceLeDiff, Int.reduceLE, Int.reduceLT, Int.reduceToNat, hn, g8, g36, g37, g38, g43, g44, g45, g9, hc3, hw]
      refine ih _ _ ⟨⟨d, L, by rw [hL, askS_succ hx, List.append_assoc], by omega, hLI, hd, n5, k5, kA, by simp only [core, Nat.reduceAdd, Nat.reduceSub, Nat.reduceMul, Nat.reduceLT, Nat.reduceEqDiff, reduceCtorEq, Nat.reduceLeDiff, Int.reduceLE, Int.reduceLT, Int.reduceToNat, g9]⟩, by simp only [core, Nat.reduceAdd, Nat.reduceSub, Nat.reduceMul, Nat.reduceLT, Nat.reduceEqDiff, reduceCtorEq, Nat.reduceLeDiff, Int.reduceLE, Int.reduceLT, Int.reduceToNat, hn, g8, g36, g37, g38, g43, g44, g45]⟩
    · have e6 : Ext h.n h (h.push (.cells [.lit (.int .i64 x.first), .lit (.int .i64 x.last), xa, xb, .lit (.bool x.mayRw)] 65)) := (Ext.refl _ _).push _ (Nat.le_refl _)
      refine ⟨⟨d, L, by rw [hL]; simp, by omega, hLI, hd.ext e6 (Nat.le_refl _), Nat.le_trans n5 e6.1, fun b hb hbb => (e6.2 b (by omega)).trans (k5 b hb hbb), kA, by simp only [core, Nat.reduceAdd, Nat.reduceSub, Nat.reduceMul, Nat.reduceLT, Nat.reduceEqDiff, reduceCtorEq, Nat.reduceLeDiff, Int.reduceLE, Int.reduceLT, Int.reduceToNat, hn, g8, g36, g37, g38, g9]⟩, by simp only [core, Nat.reduceAdd, Nat.reduceSub, Nat.reduceMul, Nat.reduceLT, Nat.reduceEqDiff, reduceCtorEq, Nat.reduceLeDiff, Int.reduceLE, Int.reduceLT, Int.reduceToNat, hn, g8, g36, g37, g38, g9]; rfl⟩
  · rintro t h hc ⟨⟨d, L, hL, hLl, hLI, hd, n5, k5, kA, g9⟩, hn, g8, g36, g37, g38⟩
    have d1 := (hd.toSl (F := fun _ => True) (fun _ _ => trivial)).isSl
    have EHh : Ext H.n H h := ⟨by have := E5.1; omega, fun b hb => (k5 b (by have := E5.1; omega) (.inl (by have := E3.1; omega))).trans (E5.2 b hb)⟩
    simp only [core, Nat.reduceAdd, Nat.reduceSub, Nat.reduceMul, Nat.reduceLT, Nat.reduceEqDiff, reduceCtorEq, Nat.reduceLeDiff, Int.reduceLE, Int.reduceLT, Int.reduceToNat, hn, g8, g36, g37, g38, g9, hc, d1]
    refine (srt_cmp hd (by omega) hLI (Q := fun r h' => Ext h3.n h h' ∧ IsSl RInt (fun b => h3.n ≤ b) h' r (cmpI (srtI L))) (fun r h' a b => ⟨a, b⟩)).mono ?_
    rintro _ h8 ⟨rfl, hw8⟩
    simp only [core, Nat.reduceAdd, Nat.reduceSub, Nat.reduceMul, Nat.reduceLT, Nat.reduceEqDiff, reduceCtorEq, Nat.reduceLeDiff, Int.reduceLE, Int.reduceLT, Int.reduceToNat, hn, g8, g36, g37, g38, g9, d1]
    refine hw8.mono ?_
    rintro rr h9 ⟨e9, hrr⟩
    have rr1 := hrr.isSl
    simp only [core, Nat.reduceAdd, Nat.reduceSub, Nat.reduceMul, Nat.reduceLT, Nat.reduceEqDiff, reduceCtorEq, Nat.reduceLeDiff, Int.reduceLE, Int.reduceLT, Int.reduceToNat, hn, g8, g36, g37, g38, g9, rr1]
    have hn3 := E3.1
    refine ⟨EHh.trans (e9.mono hn3), ?_⟩
    unfold askG
    rw [hmd, hlast]
    show IsSl RInt _ h9 rr (cmpI (srtI (y.acting ++ askS les xs m (priorF les xs).length)))
    rw [← hL]
    exact hrr.lift fun b hb _ => ⟨rfl, by omega⟩
  · refine ⟨⟨d, y.acting, by unfold askS; simp, by omega, fun o ho => ?_, hd.ext e5 (Nat.le_refl _), Nat.le_refl _, fun b hb _ => rfl, hdA, by simp only [core, Nat.reduceAdd, Nat.reduceSub, Nat.reduceMul, Nat.reduceLT, Nat.reduceEqDiff, reduceCtorEq, Nat.reduceLeDiff, Int.reduceLE, Int.reduceLT, Int.reduceToNat]⟩, by simp only [core, Nat.reduceAdd, Nat.reduceSub, Nat.reduceMul, Nat.reduceLT, Nat.reduceEqDiff, reduceCtorEq, Nat.reduceLeDiff, Int.reduceLE, Int.reduceLT, Int.reduceToNat]; rfl⟩
    obtain ⟨i, hi, rfl⟩ := List.mem_iff_getElem.1 ho
    have := hya.i64 i hi
    rw [List.getD_eq_getElem?_getD, List.getElem?_eq_getElem hi] at this
    exact this
end Go.Proofs.Ytkgbeihcepociaa.Ex
end

section

set_option linter.unusedSimpArgs false
set_option linter.unusedVariables false
set_option maxRecDepth 10000
namespace Go.Proofs.Ytkgbeihcepociaa.Ex
open Go
/-! What compact keeps. -/
theorem cmp_sub {xs : List Int} {x : Int} (hx : x ∈ cmpI xs) : x ∈ xs := by
  unfold cmpI Lib.compact Lib.compactUpTo at hx
  obtain ⟨j, hj, rfl⟩ := List.mem_map.1 hx
  have hj := List.mem_range.1 (List.mem_filter.1 hj).1
  rw [show xs.toArray[j]! = xs[j] by simp [List.getElem!_eq_getElem?_getD, hj]]
  exact List.getElem_mem _
theorem cmp_all {xs : List Int} {x : Int} (hx : x ∈ xs) : x ∈ cmpI xs := by
  have key : ∀ m, m ≤ xs.length → ∀ j, j < m → xs.toArray[j]! ∈ Lib.compactUpTo xs.toArray m := fun m => by
    induction m with
    | zero => intro _ j hj; omega
    | succ m ih =>
      intro hm j hj
      rw [Lib.compactUpTo_succ]
      by_cases hjm : j = m
      · subst hjm
        cases hk : Lib.keeps xs.toArray j with
        | true => simp
        | false =>
          unfold Lib.keeps at hk
          rw [decide_eq_false_iff_not] at hk
          have h0 : ¬ j = 0 := fun h => hk (.inl h)
          have h1 : xs.toArray[j]! = xs.toArray[j - 1]! := Decidable.byContradiction fun h => hk (.inr h)
          rw [h1]
          exact List.mem_append_left _ (ih (by omega) (j - 1) (by omega))
      · exact List.mem_append_left _ (ih (by omega) j (by omega))
  obtain ⟨j, hj, rfl⟩ := List.mem_iff_getElem.1 hx
  have := key xs.length (Nat.le_refl _) j hj
  rw [show xs.toArray[j]! = xs[j] by simp [List.getElem!_eq_getElem?_getD, hj]] at this
  exact this
theorem mem_srt {xs : List Int} {x : Int} : x ∈ srtI xs ↔ x ∈ xs := by
  unfold srtI
  exact (List.mergeSort_perm _ _).mem_iff
theorem mem_sc {xs : List Int} {x : Int} : x ∈ cmpI (srtI xs) ↔ x ∈ xs := ⟨fun h => mem_srt.1 (cmp_sub h), fun h => cmp_all (mem_srt.2 h)⟩
theorem mem_askS {les : Int} {xs : List IvD} {m : MapD} {o : Int} : o ∈ askS les xs m (priorF les xs).length ↔ ∃ x ∈ priorF les xs, o ∈ x.acting ∧ upM m o = true := by
  unfold askS
  rw [List.take_length, List.mem_flatMap]
  simp only [List.mem_filter]
theorem ask_mono {a b : Int} (hab : a ≤ b) {xs : List IvD} {m : MapD} {o : Int} (ho : o ∈ askG b xs m) : o ∈ askG a xs m := by
  unfold askG at ho ⊢
  cases hl : xs.getLast? with
  | none => rw [hl] at ho; cases ho
  | some y =>
    rw [hl] at ho
    have ho : o ∈ cmpI (srtI (y.acting ++ askS b xs m (priorF b xs).length)) := ho
    show o ∈ cmpI (srtI (y.acting ++ askS a xs m (priorF a xs).length))
    rw [mem_sc, List.mem_append, mem_askS] at ho ⊢
    rcases ho with ho | ⟨x, hx, h1, h2⟩
    · exact .inl ho
    · refine .inr ⟨x, ?_, h1, h2⟩
      unfold priorF at hx ⊢
      rw [List.mem_filter] at hx ⊢
      refine ⟨hx.1, ?_⟩
      have := hx.2
      unfold askF at this ⊢
      rw [Bool.and_eq_true, decide_eq_true_eq] at this ⊢
      exact ⟨this.1, by omega⟩
/-! Runs follow one another. -/
def nxtR (l : List (Nat × Nat)) (i : Nat) : Nat := match (l.take i).getLast? with
  | none => 0
  | some r => r.2
theorem nxt_succ {l : List (Nat × Nat)} {i : Nat} {r : Nat × Nat} (hr : l[i]? = some r) : nxtR l (i + 1) = r.2 := by
  unfold nxtR
  rw [List.take_add_one, hr, List.getLast?_append]
  rfl
theorem runsN_chain {pool seed : Int} {ms : List MapD} : ∀ n, nxtR (runsN pool seed ms n) (runsN pool seed ms n).length = fromN pool seed ms n ∧ ∀ i r, (runsN pool seed ms n)[i]? = some r → r.1 = nxtR (runsN pool seed ms n) i
  | 0 => ⟨rfl, fun i r h => by cases h⟩
  | n + 1 => by
    obtain ⟨h1, h2⟩ := runsN_chain (pool := pool) (seed := seed) (ms := ms) n
    by_cases he : endF pool seed ms n = true
    · rw [runsN, if_pos he, fromN_succ he]
      generalize runsN pool seed ms n = l at h1 h2
      refine ⟨?_, fun i r hr => ?_⟩
      · have : (l ++ [(fromN pool seed ms n, n + 1)])[l.length]? = some (fromN pool seed ms n, n + 1) := by rw [List.getElem?_append_right (Nat.le_refl _), Nat.sub_self]; rfl
        rw [List.length_append]
        exact nxt_succ this
      · have hle : i ≤ l.length := by
          have := (List.getElem?_eq_some_iff.1 hr).1
          rw [List.length_append] at this
          have h3 : [(fromN pool seed ms n, n + 1)].length = 1 := rfl
          omega
        have hn : nxtR (l ++ [(fromN pool seed ms n, n + 1)]) i = nxtR l i := by
          unfold nxtR
          rw [List.take_append_of_le_length hle]
        rw [hn]
        by_cases hi : i < l.length
        · rw [List.getElem?_append_left hi] at hr
          exact h2 i r hr
        · obtain rfl : i = l.length := by omega
          rw [List.getElem?_append_right (Nat.le_refl _), Nat.sub_self] at hr
          cases hr
          exact h1.symm
    · have he' : endF pool seed ms n = false := by simpa using he
      rw [runsN, if_neg he, fromN_stay he']
      exact ⟨h1, h2⟩
theorem runsF_chain {pool seed : Int} {ms : List MapD} {i : Nat} {r : Nat × Nat} (hr : (runsF pool seed ms)[i]? = some r) : r.1 = nxtR (runsF pool seed ms) i := (runsN_chain _).2 i r hr
theorem runsF_end {pool seed : Int} {ms : List MapD} : nxtR (runsF pool seed ms) (runsF pool seed ms).length = ms.length := by
  by_cases h : ms = []
  · subst h; rfl
  · obtain ⟨a, ha⟩ := runsF_last (pool := pool) (seed := seed) h
    unfold nxtR
    rw [List.take_length, ha]
/-! Maps whose epochs are their places. -/
def ownN (ms : List MapD) (i : Nat) : List MapD := ms.mapIdx fun k m => if k < i then { m with epoch := (k : Int) } else m
theorem ownN_len {ms : List MapD} {i : Nat} : (ownN ms i).length = ms.length := by unfold ownN; simp
theorem ownN_get {ms : List MapD} {i k : Nat} : (ownN ms i)[k]? = (ms[k]?).map fun m => if k < i then { m with epoch := (k : Int) } else m := by
  unfold ownN
  rw [List.getElem?_mapIdx]
theorem ownN_zero {ms : List MapD} : ownN ms 0 = ms := by
  apply List.ext_getElem?
  intro k
  rw [ownN_get]
  cases ms[k]? <;> simp
theorem ownN_succ {ms : List MapD} {i : Nat} {m : MapD} (hm : ms[i]? = some m) : ownN ms (i + 1) = (ownN ms i).set i { m with epoch := (i : Int) } := by
  apply List.ext_getElem?
  intro k
  rw [List.getElem?_set, ownN_get, ownN_get]
  by_cases hk : i = k
  · subst hk
    have := (List.getElem?_eq_some_iff.1 hm).1
    rw [if_pos rfl, if_pos (by rw [ownN_len]; exact this), hm]
    simp
  · rw [if_neg hk]
    cases hq : ms[k]? with
    | none => rfl
    | some x =>
      simp only [Option.map_some]
      by_cases h1 : k < i
      · rw [if_pos h1, if_pos (by omega)]
      · rw [if_neg h1, if_neg (by omega)]
def ownD (ms : List MapD) : List MapD := ownN ms ms.length
theorem ownD_epoch {ms : List MapD} {k : Nat} (hk : k < ms.length) : ((ownD ms).getD k map0).epoch = (k : Int) := by
  rw [List.getD_eq_getElem?_getD]
  unfold ownD
  rw [ownN_get, List.getElem?_eq_getElem hk]
  simp only [Option.map_some, if_pos hk, Option.getD_some]
theorem ownD_len {ms : List MapD} : (ownD ms).length = ms.length := ownN_len
theorem ownD_ok {ms : List MapD} (hok : ∀ m ∈ ms, OkMp m) : ∀ m ∈ ownD ms, OkMp m := fun m hm => by
  obtain ⟨k, hk⟩ := List.mem_iff_getElem?.1 hm
  unfold ownD at hk
  rw [ownN_get] at hk
  cases hq : ms[k]? with
  | none => rw [hq] at hk; cases hk
  | some x =>
    rw [hq] at hk
    have := hok x (List.mem_of_getElem? hq)
    simp only [Option.map_some, Option.some.injEq] at hk
    subst hk
    split
    · exact this
    · exact this
/-- The intervals of such maps: from where to where. -/
theorem ivs_run {pool seed : Int} {ms : List MapD} {i : Nat} {x : IvD} (hx : (ivsF pool seed (ownD ms))[i]? = some x) :
    ∃ r, (runsF pool seed (ownD ms))[i]? = some r ∧ x = ivOf pool seed (cutF (ownD ms) r) ∧ x.first = (r.1 : Int) ∧ x.last = (r.2 : Int) - 1 ∧ r.1 < r.2 ∧ r.2 ≤ ms.length := by
  unfold ivsF at hx
  rw [List.getElem?_map] at hx
  cases hr : (runsF pool seed (ownD ms))[i]? with
  | none => rw [hr] at hx; cases hx
  | some r =>
    rw [hr] at hx
    simp only [Option.map_some, Option.some.injEq] at hx
    have hrun := runsF_run r (List.mem_of_getElem? hr)
    have h1 := hrun.lt
    have h2 := hrun.le
    rw [ownD_len] at h2
    have hcl := cut_len (ms := ownD ms) hrun.le
    refine ⟨r, rfl, hx.symm, ?_, ?_, h1, h2⟩
    · rw [← hx]
      show ((cutF (ownD ms) r).getD 0 map0).epoch = _
      rw [cut_getD (by omega), Nat.add_zero, ownD_epoch (by omega)]
    · rw [← hx]
      show ((cutF (ownD ms) r).getD ((cutF (ownD ms) r).length - 1) map0).epoch = _
      rw [hcl, cut_getD (by omega), ownD_epoch (by omega)]
      omega
theorem ivs_unlike {pool seed : Int} {ms : List MapD} {i : Nat} {x y : IvD} (hx : (ivsF pool seed ms)[i]? = some x) (hy : (ivsF pool seed ms)[i + 1]? = some y) : ((y.acting == x.acting) && (y.boots == x.boots)) = false := by
  unfold ivsF at hx hy
  rw [List.getElem?_map] at hx hy
  cases hr : (runsF pool seed ms)[i]? with
  | none => rw [hr] at hx; cases hx
  | some r =>
  cases hs : (runsF pool seed ms)[i + 1]? with
  | none => rw [hs] at hy; cases hy
  | some s =>
    rw [hr] at hx
    rw [hs] at hy
    simp only [Option.map_some, Option.some.injEq] at hx hy
    have h1 := runsF_run r (List.mem_of_getElem? hr)
    have h2 := runsF_run s (List.mem_of_getElem? hs)
    have hc := runsF_chain hs
    rw [nxt_succ hr] at hc
    have he := h1.ends
    have l1 := h1.lt
    have l2 := h2.lt
    have l3 := h2.le
    unfold endF at he
    rw [show r.2 - 1 + 1 = r.2 by omega, decide_eq_true (by omega), Bool.true_and, Bool.not_eq_true'] at he
    obtain ⟨q1, q2⟩ := run_act h1 (r.2 - 1) (by omega) (by omega)
    have xa : x.acting = actF (ms.getD (r.2 - 1) map0) pool seed ∧ x.boots = bootF (ms.getD (r.2 - 1) map0) (actF (ms.getD (r.2 - 1) map0) pool seed) := by
      rw [← hx]
      show actF ((cutF ms r).getD 0 map0) pool seed = _ ∧ bootF ((cutF ms r).getD 0 map0) (actF ((cutF ms r).getD 0 map0) pool seed) = _
      rw [cut_getD (by omega), Nat.add_zero]
      exact ⟨q1.symm, q2.symm⟩
    have ya : y.acting = actF (ms.getD r.2 map0) pool seed ∧ y.boots = bootF (ms.getD r.2 map0) (actF (ms.getD r.2 map0) pool seed) := by
      rw [← hy]
      show actF ((cutF ms s).getD 0 map0) pool seed = _ ∧ bootF ((cutF ms s).getD 0 map0) (actF ((cutF ms s).getD 0 map0) pool seed) = _
      rw [cut_getD (by omega), Nat.add_zero, hc]
      exact ⟨rfl, rfl⟩
    unfold sameF at he
    rw [← xa.1, ← ya.1] at he
    rw [← xa.1] at xa
    rw [← ya.1] at ya
    rw [← xa.2, ← ya.2] at he
    cases h5 : (y.acting == x.acting) with
    | false => rfl
    | true =>
      have := eq_of_beq h5
      rw [this] at he
      rw [beq_self_eq_true, Bool.true_and] at he
      rw [Bool.true_and]
      cases h6 : (y.boots == x.boots) with
      | false => rfl
      | true =>
        rw [eq_of_beq h6, beq_self_eq_true] at he
        cases he
theorem flat8 {m : MapD} : ∀ {l : List IvD}, (∀ x ∈ l, x.acting.length ≤ 8) → (l.flatMap fun x => x.acting.filter (upM m)).length ≤ 8 * l.length
  | [], _ => Nat.zero_le _
  | x :: r, h => by
    have h1 := flat8 (m := m) (l := r) fun y hy => h y (by simp [hy])
    have h2 := h x (by simp)
    have h3 := List.length_filter_le (upM m) x.acting
    rw [List.flatMap_cons, List.length_append, List.length_cons]
    omega
theorem askG_len {les : Int} {xs : List IvD} {m : MapD} (hac : ∀ x ∈ xs, x.acting.length ≤ 8 ∧ x.boots.length ≤ 8) : (askG les xs m).length ≤ 8 + 8 * xs.length := by
  unfold askG
  cases hl : xs.getLast? with
  | none => exact Nat.zero_le _
  | some y =>
    show (cmpI (srtI (y.acting ++ askS les xs m (priorF les xs).length))).length ≤ _
    have h1 := cmpI_le (srtI (y.acting ++ askS les xs m (priorF les xs).length))
    have h2 : (srtI (y.acting ++ askS les xs m (priorF les xs).length)).length = (y.acting ++ askS les xs m (priorF les xs).length).length := by unfold srtI; simp
    have h3 := (hac y (List.mem_of_getLast? hl)).1
    have h4 : (askS les xs m (priorF les xs).length).length ≤ 8 * (priorF les xs).length := by
      unfold askS
      rw [List.take_length]
      exact flat8 fun x hx => (hac x (List.dropLast_subset _ (List.mem_filter.1 hx).1)).1
    have h5 : (priorF les xs).length ≤ xs.length := by
      have := List.length_filter_le (askF les) xs.dropLast
      rw [List.length_dropLast] at this
      exact Nat.le_trans this (by omega)
    rw [List.length_append] at h2
    omega
end Go.Proofs.Ytkgbeihcepociaa.Ex
end
