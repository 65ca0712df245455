/- Part 7 of the proof: Df4, Df5, Df6, Opm, OsdmapDiffsWalk. -/
import Derived.Test.YtmfhagahkkhbeaaM6
open Nat renaming reduceAdd → zrA, reduceSub → zrS, reduceMul → zrM, reduceLT → zrL, reduceEqDiff → zrE, reduceLeDiff → zrD, reduceShiftRight → zrR, reduceMod → zrO
open Int renaming reduceLE → ziE, reduceLT → ziL, reduceToNat → ziN
section

set_option linter.unusedSimpArgs false
set_option linter.unusedVariables false
set_option maxRecDepth 10000
set_option maxHeartbeats 4000000
namespace Go.Proofs.Ytmfhagahkkhbeaa.Ex
open Go
theorem OwnL.mono0 {α : Type} {R : Rep α} {G : Nat → Prop} {n0 n1 : Nat} {h : AH} {v : AV} {e : TypeId} {xs : List α} (ho : OwnL R G n0 h v e xs) (hn : n1 ≤ n0) : OwnL R G n1 h v e xs := by
  obtain ⟨L, h1, h2⟩ := ho
  refine ⟨L, ⟨h1.1, ?_⟩, h2⟩
  rcases h1.2 with hh | ⟨p, e, hp, hat⟩
  · exact .inl hh
  · exact .inr ⟨p, e, by omega, hat⟩
structure EJ (x y : OsdD) (H : AH) (d e : Nat) (h : AH) (l : List ChD) (s : AV) : Prop where
  o : OwnC (fun _ => False) H.n h s l
  E : Ext H.n H h
  X : h.at d = some (.cells (oC' x) 57)
  Y : h.at e = some (.cells (oC' y) 57)
theorem EJ.push {x y : OsdD} {H h : AH} {d e n : Nat} {l : List ChD} {s : AV} {kind value : Int} (j : EJ x y H d e h l s) (hn0 : H.n ≤ h.n) (hi : I64 kind ∧ I64 (n : Int) ∧ I64 value) (hl : (l.length + 1) * 120 ≤ 140737488355328) :
    ∃ s' h', appendA (tabOf Try.prog NT0) (h.push (.cells [.lit (.int .i64 kind), .lit (.int .i64 (n : Int)), .lit (.int .i64 value), .lit (.int .i64 0), .lit (.int .i64 0), .lit (.int .i64 0), .lit (.int .i64 0), .lit (.int .i64 0), .lit (.int .i64 0), .lit (.slice none 0 0), .lit (.slice none 0 0)] 54)) 29 29 s (.sl h.n 0 1 (.kn 1)) = some (s', h') ∧ EJ x y H d e h' (l ++ [chO kind n value]) s' := by
  have e6 : Ext h.n h (h.push (.cells [.lit (.int .i64 kind), .lit (.int .i64 (n : Int)), .lit (.int .i64 value), .lit (.int .i64 0), .lit (.int .i64 0), .lit (.int .i64 0), .lit (.int .i64 0), .lit (.int .i64 0), .lit (.int .i64 0), .lit (.slice none 0 0), .lit (.slice none 0 0)] 54)) := (Ext.refl _ _).push _ (Nat.le_refl _)
  obtain ⟨s', h', a, o', f'⟩ := push_ch (cap := .kn 1) (x := chO kind n value) (j.o.ext e6 (Nat.le_refl _)) (by rw [n_push]; omega) (at_push_n h _) .nil .nil ⟨hi, okp0, I64z, I64z⟩ hl
  have fr : Fr h s h' s' := (Fr.ext e6).trans f'
  refine ⟨s', h', a, o', j.E.trans ⟨fr.1, fun k hk => (fr.2 k (by omega) (j.o.apartLt hk)).1⟩, ?_, ?_⟩
  · rw [(fr.2 d (at_lt j.X) (j.o.sepAt j.X (by decide))).1]; exact j.X
  · rw [(fr.2 e (at_lt j.Y) (j.o.sepAt j.Y (by decide))).1]; exact j.Y
theorem bne_cm (a b : Int) : (a != b) = (b != a) := by
  show (!(a == b)) = !(b == a)
  rw [BEq.comm]
theorem oneC_eq2 (w : Int) (x y : OsdD) (n : Int) : oneC w x y n = (if (x.up && (!y.up || y.boot != x.boot)) = true then [chO 2 n x.boot] else []) ++ ((if (y.ex && y.boot != x.boot) = true then [chO 1 n y.boot] else []) ++ ((if (y.weight != w) = true then [chO 3 n y.weight] else []) ++ (if (y.upThru != x.upThru) = true then [chO 4 n y.upThru] else []))) := by
  rw [oneC_eq, bne_cm x.boot, bne_cm w, bne_cm x.upThru]
theorem osds10_x {F : Nat → Prop} {H : AH} {a b : MapD} {vo vp vb uo up ub : AV} (hm : MpAt F H a vo vp vb) (hm2 : MpAt F H b uo up ub)
    (la : Sm 40 a.osds) (lb : Sm 40 b.osds) (hl : (4 * b.osds.length) * 120 ≤ 140737488355328) :
    WC Try.prog (tabOf Try.prog NT0) S0 19 [mpV a vo vp vb, mpV b uo up ub] H fun r h' => Ext H.n H h' ∧ OwnC (fun _ => False) H.n h' r (osL wD a b b.osds.length) := by
  refine WC_fn Try.func19 rfl rfl ?_
  have o1 := hm.o.one
  have o2 := hm.p.one
  have o3 := hm.b.one
  have p1 := hm2.o.one
  have p2 := hm2.p.one
  have p3 := hm2.b.one
  have s1 := hm.o.isSl
  have s2 := hm.p.isSl
  have s3 := hm.b.isSl
  have t1 := hm2.o.isSl
  have d2 := hm2.o.lenD
  unfold Sm at la lb
  obtain ⟨N, hN⟩ : ∃ N, N = b.osds.length := ⟨_, rfl⟩
  rw [← hN] at hl d2 ⊢
  obtain ⟨hb, hhb⟩ : ∃ hb, hb = (H.push (mC a vo vp vb)).push (mC b uo up ub) := ⟨_, rfl⟩
  have EB : Ext H.n H hb := hhb ▸ ((Ext.refl _ _).push _ (Nat.le_refl _)).push _ (by rw [n_push]; omega)
  have A0 : hb.at H.n = some (mC a vo vp vb) := hhb ▸ (at_push_lt _ (by rw [n_push]; omega)).trans (at_push_n _ _)
  have B0 : hb.at (H.n + 1) = some (mC b uo up ub) := hhb ▸ at_push_n (H.push (mC a vo vp vb)) _
  have nb : hb.n = H.n + 2 := by rw [hhb, n_push, n_push]
  have ma := hm.ext EB (Nat.le_refl _)
  have mb := hm2.ext EB (Nat.le_refl _)
  unfold mC at hhb A0 B0
  have LA0 := ld_at (T := tabOf Try.prog NT0) A0
  have LB0 := ld_at (T := tabOf Try.prog NT0) B0
  have lA0 := at_lt A0
  have lB0 := at_lt B0
  simp only [core, zrA, zrS, zrM, zrL, zrE, reduceCtorEq, zrD, ziE, ziL, ziN, Try.ntmps19, mpV, o1, o2, o3, p1, p2, p3, n_push, ← hhb, LA0, LB0, lA0, lB0, t1, d2]
  refine WB_for N (fun i t h => (∃ s', OwnC (fun _ => False) hb.n h s' (osL wD a b i) ∧ Ext hb.n hb h ∧ t.get 5 = s') ∧ t.n = 95 ∧ t.get 2 = .ptr H.n 0 ∧ t.get 3 = .ptr (H.n + 1) 0 ∧ t.get 12 = .lit (.int .i64 N) ∧ t.get 13 = .lit (.int .i64 i)) ?_ ?_ _ _ ?_
  · rintro i t h hlt hc ⟨⟨s', oC, EH, g5⟩, hn, g2, g3, g12, g13⟩ ih
    have hwi := wrap_succ (n := N) hlt (by omega)
    have hlen := osL_len wD a b i
    obtain ⟨x, hx⟩ : ∃ x, x = osdG a i := ⟨_, rfl⟩
    obtain ⟨y, hy⟩ : ∃ y, b.osds[i]? = some y := ⟨_, List.getElem?_eq_getElem (by omega)⟩
    have hyG : osdG b i = y := by
      rw [osdG_get (by omega), List.getD_eq_getElem?_getD, show ((i : Nat) : Int).toNat = i from rfl, hy]
      rfl
    have okx : okO x := hx ▸ osdG_ok hm _
    have oky : okO y := hyG ▸ osdG_ok hm2 _
    have iI : I64 (i : Int) := by unfold I64; omega
    have f1 := EH.1
    have hiN : i < N := hlt
    have AA := (EH.2 _ lA0).trans A0
    have BB := (EH.2 _ lB0).trans B0
    have LA := ld_at (T := tabOf Try.prog NT0) AA
    have LB := ld_at (T := tabOf Try.prog NT0) BB
    have lA := at_lt AA
    have lB := at_lt BB
    obtain ⟨cy, hcy, ld1, ld1'⟩ := (mb.ext EH (Nat.le_refl _)).o.at (T := tabOf Try.prog NT0) ROsd_z hy
    obtain ⟨rfl, -⟩ := ROsd_is.1 hcy
    obtain ⟨hA, hhA⟩ : ∃ hA, hA = (h.push (.cells [.lit (.bool false), .lit (.bool false), .lit (.int .i64 0), .lit (.int .i64 0), .lit (.int .i64 0), .lit (.int .i64 0)] 57)).push (.cells [.lit (.bool false), .lit (.bool false), .lit (.int .i64 0), .lit (.int .i64 0), .lit (.int .i64 0), .lit (.int .i64 0)] 57) := ⟨_, rfl⟩
    have eA : Ext h.n h hA := hhA ▸ ((Ext.refl _ _).push _ (Nat.le_refl _)).push _ (by rw [n_push]; omega)
    have nA : hA.n = h.n + 2 := by rw [hhA, n_push, n_push]
    have X2 : hA.at h.n = some (.cells [.lit (.bool false), .lit (.bool false), .lit (.int .i64 0), .lit (.int .i64 0), .lit (.int .i64 0), .lit (.int .i64 0)] 57) := hhA ▸ (at_push_lt _ (by rw [n_push]; omega)).trans (at_push_n _ _)
    have Y2 : hA.at (h.n + 1) = some (.cells [.lit (.bool false), .lit (.bool false), .lit (.int .i64 0), .lit (.int .i64 0), .lit (.int .i64 0), .lit (.int .i64 0)] 57) := hhA ▸ at_push_n (h.push (.cells [.lit (.bool false), .lit (.bool false), .lit (.int .i64 0), .lit (.int .i64 0), .lit (.int .i64 0), .lit (.int .i64 0)] 57)) _
    simp only [core, zrA, zrS, zrM, zrL, zrE, reduceCtorEq, zrD, ziE, ziL, ziN, hn, g2, g3, g12, g13, g5, hlt, hc]
    rw [WB_regionD [0, 1, 3, 4, 5, 6, 7, 8, 9, 2, 10, 11] 11145958233091312186555971778457505160495104 (by kernel_rfl)]
    repeat ((with_reducible refine WDM_cons ?_; simp only [dw1]; try simp only [dw2, zrA, zrM, zrR, zrO, zrE]); simp only [core, zrA, zrS, zrM, zrL, zrE, reduceCtorEq, zrD, ziE, ziL, ziN, cored, hn, g2, g3, g12, g13, g5, LA, LB, lA, lB, o1, o2, o3, t1, d2, hiN, ld1, ld1', n_push, ← hhA])
    have AA2 := (eA.2 _ lA).trans AA
    have BB2 := (eA.2 _ lB).trans BB
    have LA2 := ld_at (T := tabOf Try.prog NT0) AA2
    have LB2 := ld_at (T := tabOf Try.prog NT0) BB2
    have E2 : Ext hb.n hb hA := EH.trans (eA.mono f1)
    have LY2 := (mb.ext EH (Nat.le_refl _)).o.loadExt (T := tabOf Try.prog NT0) hy eA
    refine ⟨by simp only [core, zrA, zrS, zrM, zrL, zrE, reduceCtorEq, zrD, ziE, ziL, ziN, cored, LA2, LB2, LY2, ld1, ld1', same_agg, same_int, same_bool, same_sl, same_one, s1, s2, s3, t1, o1, o2, o3, List.zip_cons_cons, List.zip_nil_left, List.all_cons, List.all_nil], ?_⟩
    refine (osdR_x i (ma.ext E2 (Nat.le_refl _)) (by unfold Sm; omega)).mono ?_
    rintro _ h6 ⟨e6, rfl⟩
    have X6 := (e6.2 _ (at_lt X2)).trans X2
    have Y6 := (e6.2 _ (at_lt Y2)).trans Y2
    have lX6 := at_lt X6
    have lY6 := at_lt Y6
    have f6 := e6.1
    have E6 := E2.trans (e6.mono E2.1)
    rw [← hx]
    unfold osdV
    obtain ⟨hC, hhC⟩ : ∃ hC, hC = h6.put h.n (.cells [.lit (.bool x.ex), .lit (.bool x.up), .lit (.int .i64 x.weight), .lit (.int .i64 x.boot), .lit (.int .i64 x.upFrom), .lit (.int .i64 x.upThru)] 57) := ⟨_, rfl⟩
    have nC : hC.n = h6.n := by rw [hhC, n_put]
    have YC := (show hC.at (h.n + 1) = h6.at (h.n + 1) by rw [hhC, at_put_ne _ (by omega)]).trans Y6
    have lYC := at_lt YC
    obtain ⟨hD, hhD⟩ : ∃ hD, hD = hC.put (h.n + 1) (.cells [.lit (.bool y.ex), .lit (.bool y.up), .lit (.int .i64 y.weight), .lit (.int .i64 y.boot), .lit (.int .i64 y.upFrom), .lit (.int .i64 y.upThru)] 57) := ⟨_, rfl⟩
    have nD : hD.n = h6.n := by rw [hhD, n_put, nC]
    have J : EJ x y hb h.n (h.n + 1) hD (osL wD a b i) s' := by
      have e0 : Ext h.n h h6 := eA.trans (e6.mono (by omega))
      have eD : Ext h.n h hD := hhD ▸ hhC ▸ ((e0.put _ (Nat.le_refl _)).put _ (by omega))
      refine ⟨oC.ext eD (Nat.le_refl _), EH.trans (eD.mono f1), ?_, ?_⟩
      · rw [hhD, at_put_ne _ (by omega), hhC]; exact at_put lX6
      · rw [hhD]; exact at_put lYC
    have eC : Ext h.n h hC := hhC ▸ ((eA.trans (e6.mono (by omega))).put _ (Nat.le_refl _))
    have LBC := ld_at (T := tabOf Try.prog NT0) ((eC.2 _ lB).trans BB)
    have LYC := (mb.ext EH (Nat.le_refl _)).o.loadExt (T := tabOf Try.prog NT0) hy eC
    have e6h : Ext h.n h h6 := eA.trans (e6.mono (by omega))
    have LB6 := ld_at (T := tabOf Try.prog NT0) ((e6h.2 _ lB).trans BB)
    have LY6 := (mb.ext EH (Nat.le_refl _)).o.loadExt (T := tabOf Try.prog NT0) hy e6h
    (with_reducible refine WDM_cons ?_; simp only [dw1]; try simp only [dw2, zrA, zrM, zrR, zrO, zrE])
    simp only [core, zrA, zrS, zrM, zrL, zrE, reduceCtorEq, zrD, ziE, ziL, ziN, cored, hn, g2, g3, g12, g13, X6, YC, lX6, lYC, ← hhC, ← hhD]
    refine ⟨by simp only [core, zrA, zrS, zrM, zrL, zrE, reduceCtorEq, zrD, ziE, ziL, ziN, cored, LB6, LY6, ld1, ld1', same_agg, same_int, same_bool, same_sl, same_one, t1, List.zip_cons_cons, List.zip_nil_left, List.all_cons, List.all_nil], ?_⟩
    (with_reducible refine WDM_cons ?_; simp only [dw1]; try simp only [dw2, zrA, zrM, zrR, zrO, zrE])
    simp only [core, zrA, zrS, zrM, zrL, zrE, reduceCtorEq, zrD, ziE, ziL, ziN, cored, hn, g2, g3, g12, g13, X6, YC, lX6, lYC, ← hhC, ← hhD]
    refine ⟨by simp only [core, zrA, zrS, zrM, zrL, zrE, reduceCtorEq, zrD, ziE, ziL, ziN, cored, LBC, LYC, ld1, ld1', same_agg, same_int, same_bool, same_sl, same_one, t1, List.zip_cons_cons, List.zip_nil_left, List.all_cons, List.all_nil], ?_⟩
    repeat ((with_reducible refine WDM_cons ?_; simp only [dw1]; try simp only [dw2, zrA, zrM, zrR, zrO, zrE]); simp only [core, zrA, zrS, zrM, zrL, zrE, reduceCtorEq, zrD, ziE, ziL, ziN, cored, hn, g2, g3, g12, g13, X6, YC, lX6, lYC, ← hhC, ← hhD])
    obtain ⟨L0, hL0⟩ : ∃ L0, L0 = osL wD a b i := ⟨_, rfl⟩
    have hL0n : L0.length ≤ 4 * i := by rw [hL0]; omega
    rw [← hL0] at J
    clear hhC hhD hhA hhb
    have hn0 := J.E.1
    with_reducible refine any_cut (P := Try.prog) (T := tabOf Try.prog NT0) (S := S0) (E := ⟨19, [], none, none⟩) (X := fun k K => WOp _ _ _ _ _ _ (_ :: _ :: k) K _) (fun t h' => (∃ s', EJ x y hb h.n (h.n + 1) h' (L0 ++ (if (x.up && (!y.up || y.boot != x.boot)) = true then [chO 2 i x.boot] else [])) s' ∧ t.get 5 = s') ∧ t.n = 95 ∧ t.get 2 = .ptr H.n 0 ∧ t.get 3 = .ptr (H.n + 1) 0 ∧ t.get 6 = .lit (.int .i64 i) ∧ t.get 7 = .ptr h.n 0 ∧ t.get 8 = .ptr (h.n + 1) 0 ∧ t.get 12 = .lit (.int .i64 N) ∧ t.get 13 = .lit (.int .i64 i)) (fun k' K' hk => ?_) ?_
    · have LX := ld_at (T := tabOf Try.prog NT0) J.X
      have LY := ld_at (T := tabOf Try.prog NT0) J.Y
      unfold oC' at LX LY
      have fin0 : (x.up && (!y.up || y.boot != x.boot)) = false → ∀ t, t.get 5 = s' ∧ t.n = 95 ∧ t.get 2 = .ptr H.n 0 ∧ t.get 3 = .ptr (H.n + 1) 0 ∧ t.get 6 = .lit (.int .i64 i) ∧ t.get 7 = .ptr h.n 0 ∧ t.get 8 = .ptr (h.n + 1) 0 ∧ t.get 12 = .lit (.int .i64 N) ∧ t.get 13 = .lit (.int .i64 i) → WB Try.prog (tabOf Try.prog NT0) S0 ⟨19, [], none, none⟩ t k' hD K' := fun hf t ht => hk _ _ ⟨⟨s', by rw [if_neg (by rw [hf]; decide), List.append_nil]; exact J, ht.1⟩, ht.2⟩
      cases hxu : x.up with
      | false =>
        simp only [core, zrA, zrS, zrM, zrL, zrE, reduceCtorEq, zrD, ziE, ziL, ziN, hn, g2, g3, g12, g13, g5, LX, LY, hxu, aundef]
        refine fin0 (by rw [hxu]; rfl) _ ?_
        simp only [core, zrA, zrS, zrM, zrL, zrE, reduceCtorEq, zrD, ziE, ziL, ziN, hn, g2, g3, g12, g13, g5]
      | true =>
        cases hyu : y.up with
        | false =>
          have hc0 : (x.up && (!y.up || y.boot != x.boot)) = true := by rw [hxu, hyu]; rfl
          rw [if_pos hc0] at hk
          simp only [core, zrA, zrS, zrM, zrL, zrE, reduceCtorEq, zrD, ziE, ziL, ziN, hn, g2, g3, g12, g13, g5, LX, LY, hxu, hyu, aundef]
          refine WOp_app (J.push (kind := 2) (n := i) (value := x.boot) (by have := J.E.1; omega) ⟨by unfold I64; decide, iI, okx.2.1⟩ (by omega)) ?_
          rintro s4 h4 J4
          have v4 := J4.o.one
          simp only [core, zrA, zrS, zrM, zrL, zrE, reduceCtorEq, zrD, ziE, ziL, ziN, hn, g2, g3, g12, g13, v4]
          refine hk _ _ ⟨⟨s4, J4, ?_⟩, ?_⟩
          all_goals simp only [core, zrA, zrS, zrM, zrL, zrE, reduceCtorEq, zrD, ziE, ziL, ziN, hn, g2, g3, g12, g13]
        | true =>
          by_cases hxy : (y.boot != x.boot) = true
          · have hc0 : (x.up && (!y.up || y.boot != x.boot)) = true := by rw [hxu, hyu, hxy]; rfl
            rw [if_pos hc0] at hk
            simp only [core, zrA, zrS, zrM, zrL, zrE, reduceCtorEq, zrD, ziE, ziL, ziN, hn, g2, g3, g12, g13, g5, LX, LY, hxu, hyu, aundef, hxy]
            refine WOp_app (J.push (kind := 2) (n := i) (value := x.boot) (by have := J.E.1; omega) ⟨by unfold I64; decide, iI, okx.2.1⟩ (by omega)) ?_
            rintro s4 h4 J4
            have v4 := J4.o.one
            simp only [core, zrA, zrS, zrM, zrL, zrE, reduceCtorEq, zrD, ziE, ziL, ziN, hn, g2, g3, g12, g13, v4]
            refine hk _ _ ⟨⟨s4, J4, ?_⟩, ?_⟩
            all_goals simp only [core, zrA, zrS, zrM, zrL, zrE, reduceCtorEq, zrD, ziE, ziL, ziN, hn, g2, g3, g12, g13]
          · have hxy := eq_false_of_ne_true hxy
            simp only [core, zrA, zrS, zrM, zrL, zrE, reduceCtorEq, zrD, ziE, ziL, ziN, hn, g2, g3, g12, g13, g5, LX, LY, hxu, hyu, aundef, hxy]
            refine fin0 (by rw [hxu, hyu, hxy]; rfl) _ ?_
            simp only [core, zrA, zrS, zrM, zrL, zrE, reduceCtorEq, zrD, ziE, ziL, ziN, hn, g2, g3, g12, g13, g5]
    rintro t h3 ⟨⟨s3, J3, g5⟩, hn, g2, g3, g6, g7, g8, g12, g13⟩
    obtain ⟨L1, hL1⟩ : ∃ L1, L1 = (L0 ++ (if (x.up && (!y.up || y.boot != x.boot)) = true then [chO 2 i x.boot] else [])) := ⟨_, rfl⟩
    have hL1n : L1.length ≤ 4 * i + 1 := by
      rw [hL1, List.length_append]
      split <;> simp <;> omega
    rw [← hL1] at J3
    rw [WB_seq]
    refine WB_cut (fun t h' => (∃ s', EJ x y hb h.n (h.n + 1) h' (L1 ++ (if (y.ex && y.boot != x.boot) = true then [chO 1 i y.boot] else [])) s' ∧ t.get 5 = s') ∧ t.n = 95 ∧ t.get 2 = .ptr H.n 0 ∧ t.get 3 = .ptr (H.n + 1) 0 ∧ t.get 6 = .lit (.int .i64 i) ∧ t.get 7 = .ptr h.n 0 ∧ t.get 8 = .ptr (h.n + 1) 0 ∧ t.get 12 = .lit (.int .i64 N) ∧ t.get 13 = .lit (.int .i64 i)) (fun k' K' hk => ?_) ?_
    · have LX := ld_at (T := tabOf Try.prog NT0) J3.X
      have LY := ld_at (T := tabOf Try.prog NT0) J3.Y
      unfold oC' at LX LY
      have fin0 : (y.ex && y.boot != x.boot) = false → ∀ t, t.get 5 = s3 ∧ t.n = 95 ∧ t.get 2 = .ptr H.n 0 ∧ t.get 3 = .ptr (H.n + 1) 0 ∧ t.get 6 = .lit (.int .i64 i) ∧ t.get 7 = .ptr h.n 0 ∧ t.get 8 = .ptr (h.n + 1) 0 ∧ t.get 12 = .lit (.int .i64 N) ∧ t.get 13 = .lit (.int .i64 i) → WB Try.prog (tabOf Try.prog NT0) S0 ⟨19, [], none, none⟩ t k' h3 K' := fun hf t ht => hk _ _ ⟨⟨s3, by rw [if_neg (by rw [hf]; decide), List.append_nil]; exact J3, ht.1⟩, ht.2⟩
      cases hye : y.ex with
      | false =>
        simp only [core, zrA, zrS, zrM, zrL, zrE, reduceCtorEq, zrD, ziE, ziL, ziN, hn, g2, g3, g6, g7, g8, g12, g13, g5, LX, LY, hye, aundef]
        refine fin0 (by rw [hye]; rfl) _ ?_
        simp only [core, zrA, zrS, zrM, zrL, zrE, reduceCtorEq, zrD, ziE, ziL, ziN, hn, g2, g3, g6, g7, g8, g12, g13, g5]
      | true =>
        by_cases hxy : (y.boot != x.boot) = true
        · have hc1 : (y.ex && y.boot != x.boot) = true := by rw [hye, hxy]; rfl
          rw [if_pos hc1] at hk
          simp only [core, zrA, zrS, zrM, zrL, zrE, reduceCtorEq, zrD, ziE, ziL, ziN, hn, g2, g3, g6, g7, g8, g12, g13, g5, LX, LY, hye, hxy, aundef]
          refine WOp_app (J3.push (kind := 1) (n := i) (value := y.boot) (by have := J3.E.1; omega) ⟨by unfold I64; decide, iI, oky.2.1⟩ (by omega)) ?_
          rintro s4 h4 J4
          have v4 := J4.o.one
          simp only [core, zrA, zrS, zrM, zrL, zrE, reduceCtorEq, zrD, ziE, ziL, ziN, hn, g2, g3, g6, g7, g8, g12, g13, v4]
          refine hk _ _ ⟨⟨s4, J4, ?_⟩, ?_⟩
          all_goals simp only [core, zrA, zrS, zrM, zrL, zrE, reduceCtorEq, zrD, ziE, ziL, ziN, hn, g2, g3, g6, g7, g8, g12, g13]
        · have hxy := eq_false_of_ne_true hxy
          simp only [core, zrA, zrS, zrM, zrL, zrE, reduceCtorEq, zrD, ziE, ziL, ziN, hn, g2, g3, g6, g7, g8, g12, g13, g5, LX, LY, hye, hxy, aundef]
          refine fin0 (by rw [hye, hxy]; rfl) _ ?_
          simp only [core, zrA, zrS, zrM, zrL, zrE, reduceCtorEq, zrD, ziE, ziL, ziN, hn, g2, g3, g6, g7, g8, g12, g13, g5]
    rintro t h5 ⟨⟨s5, J5, g5⟩, hn, g2, g3, g6, g7, g8, g12, g13⟩
    obtain ⟨L2, hL2⟩ : ∃ L2, L2 = (L1 ++ (if (y.ex && y.boot != x.boot) = true then [chO 1 i y.boot] else [])) := ⟨_, rfl⟩
    have hL2n : L2.length ≤ 4 * i + 2 := by
      rw [hL2, List.length_append]
      split <;> simp <;> omega
    rw [← hL2] at J5
    have LX := ld_at (T := tabOf Try.prog NT0) J5.X
    have LY := ld_at (T := tabOf Try.prog NT0) J5.Y
    unfold oC' at LX LY
    rw [WB_seq]
    refine WB_cut (fun t h' => (h' = h5 ∧ t.get 5 = s5) ∧ t.n = 95 ∧ t.get 2 = .ptr H.n 0 ∧ t.get 3 = .ptr (H.n + 1) 0 ∧ t.get 6 = .lit (.int .i64 i) ∧ t.get 7 = .ptr h.n 0 ∧ t.get 8 = .ptr (h.n + 1) 0 ∧ t.get 9 = .lit (.int .i64 x.weight) ∧ t.get 12 = .lit (.int .i64 N) ∧ t.get 13 = .lit (.int .i64 i)) (fun k' K' hk => ?_) ?_
    · simp only [core, zrA, zrS, zrM, zrL, zrE, reduceCtorEq, zrD, ziE, ziL, ziN, hn, g2, g3, g6, g7, g8, g12, g13, g5, LX, LY]
      refine hk _ _ ⟨⟨rfl, ?_⟩, ?_⟩
      all_goals simp only [core, zrA, zrS, zrM, zrL, zrE, reduceCtorEq, zrD, ziE, ziL, ziN, hn, g2, g3, g6, g7, g8, g12, g13, g5]
    rintro t h' ⟨⟨rfl, g5⟩, hn, g2, g3, g6, g7, g8, g9, g12, g13⟩
    rw [WB_seq]
    refine WB_cut (fun t h3 => (h3 = h' ∧ t.get 5 = s5) ∧ t.n = 95 ∧ t.get 2 = .ptr H.n 0 ∧ t.get 3 = .ptr (H.n + 1) 0 ∧ t.get 6 = .lit (.int .i64 i) ∧ t.get 7 = .ptr h.n 0 ∧ t.get 8 = .ptr (h.n + 1) 0 ∧ t.get 9 = .lit (.int .i64 (wD x y)) ∧ t.get 12 = .lit (.int .i64 N) ∧ t.get 13 = .lit (.int .i64 i)) (fun k' K' hk => ?_) ?_
    · cases hxe : x.ex with
      | true =>
        have hw : wD x y = x.weight := by unfold wD; rw [if_neg (by rw [hxe]; rintro ⟨q, -⟩; cases q)]
        simp only [core, zrA, zrS, zrM, zrL, zrE, reduceCtorEq, zrD, ziE, ziL, ziN, hn, g2, g3, g6, g7, g8, g9, g12, g13, g5, LX, LY, hxe, aundef]
        refine hk _ _ ⟨⟨rfl, ?_⟩, ?_⟩
        all_goals simp only [core, zrA, zrS, zrM, zrL, zrE, reduceCtorEq, zrD, ziE, ziL, ziN, hn, g2, g3, g6, g7, g8, g9, g12, g13, g5, hw]
      | false =>
        cases hye : y.ex with
        | false =>
          have hw : wD x y = x.weight := by unfold wD; rw [if_neg (by rw [hye]; rintro ⟨-, q⟩; cases q)]
          simp only [core, zrA, zrS, zrM, zrL, zrE, reduceCtorEq, zrD, ziE, ziL, ziN, hn, g2, g3, g6, g7, g8, g9, g12, g13, g5, LX, LY, hxe, hye, aundef]
          refine hk _ _ ⟨⟨rfl, ?_⟩, ?_⟩
          all_goals simp only [core, zrA, zrS, zrM, zrL, zrE, reduceCtorEq, zrD, ziE, ziL, ziN, hn, g2, g3, g6, g7, g8, g9, g12, g13, g5, hw]
        | true =>
          have hw : wD x y = 65536 := by unfold wD; rw [if_pos ⟨hxe, hye⟩]
          simp only [core, zrA, zrS, zrM, zrL, zrE, reduceCtorEq, zrD, ziE, ziL, ziN, hn, g2, g3, g6, g7, g8, g9, g12, g13, g5, LX, LY, hxe, hye, aundef]
          refine hk _ _ ⟨⟨rfl, ?_⟩, ?_⟩
          all_goals simp only [core, zrA, zrS, zrM, zrL, zrE, reduceCtorEq, zrD, ziE, ziL, ziN, hn, g2, g3, g6, g7, g8, g9, g12, g13, g5, hw]
    rintro t h3 ⟨⟨rfl, g5⟩, hn, g2, g3, g6, g7, g8, g9, g12, g13⟩
    rw [WB_seq]
    refine WB_cut (fun t h' => (∃ s', EJ x y hb h.n (h.n + 1) h' (L2 ++ (if (y.weight != wD x y) = true then [chO 3 i y.weight] else [])) s' ∧ t.get 5 = s') ∧ t.n = 95 ∧ t.get 2 = .ptr H.n 0 ∧ t.get 3 = .ptr (H.n + 1) 0 ∧ t.get 6 = .lit (.int .i64 i) ∧ t.get 7 = .ptr h.n 0 ∧ t.get 8 = .ptr (h.n + 1) 0 ∧ t.get 9 = .lit (.int .i64 (wD x y)) ∧ t.get 12 = .lit (.int .i64 N) ∧ t.get 13 = .lit (.int .i64 i)) (fun k' K' hk => ?_) ?_
    · have LX := ld_at (T := tabOf Try.prog NT0) J5.X
      have LY := ld_at (T := tabOf Try.prog NT0) J5.Y
      unfold oC' at LX LY
      by_cases ht : (y.weight != wD x y) = true
      · rw [if_pos ht] at hk
        simp only [core, zrA, zrS, zrM, zrL, zrE, reduceCtorEq, zrD, ziE, ziL, ziN, hn, g2, g3, g6, g7, g8, g9, g12, g13, g5, LX, LY, ht]
        refine WOp_app (J5.push (kind := 3) (n := i) (value := y.weight) (by have := J5.E.1; omega) ⟨by unfold I64; decide, iI, oky.1⟩ (by omega)) ?_
        rintro s4 h4 J4
        have v4 := J4.o.one
        simp only [core, zrA, zrS, zrM, zrL, zrE, reduceCtorEq, zrD, ziE, ziL, ziN, hn, g2, g3, g6, g7, g8, g9, g12, g13, v4]
        refine hk _ _ ⟨⟨s4, J4, ?_⟩, ?_⟩
        all_goals simp only [core, zrA, zrS, zrM, zrL, zrE, reduceCtorEq, zrD, ziE, ziL, ziN, hn, g2, g3, g6, g7, g8, g9, g12, g13]
      · rw [if_neg ht, List.append_nil] at hk
        have ht := eq_false_of_ne_true ht
        simp only [core, zrA, zrS, zrM, zrL, zrE, reduceCtorEq, zrD, ziE, ziL, ziN, hn, g2, g3, g6, g7, g8, g9, g12, g13, g5, LX, LY, ht]
        refine hk _ _ ⟨⟨_, J5, ?_⟩, ?_⟩
        all_goals simp only [core, zrA, zrS, zrM, zrL, zrE, reduceCtorEq, zrD, ziE, ziL, ziN, hn, g2, g3, g6, g7, g8, g9, g12, g13, g5]
    rintro t h6' ⟨⟨s6, J6, g5⟩, hn, g2, g3, g6, g7, g8, g9, g12, g13⟩
    obtain ⟨L3, hL3⟩ : ∃ L3, L3 = (L2 ++ (if (y.weight != wD x y) = true then [chO 3 i y.weight] else [])) := ⟨_, rfl⟩
    have hL3n : L3.length ≤ 4 * i + 3 := by
      rw [hL3, List.length_append]
      split <;> simp <;> omega
    rw [← hL3] at J6
    refine WB_cut (fun t h' => (∃ s', EJ x y hb h.n (h.n + 1) h' (L3 ++ (if (y.upThru != x.upThru) = true then [chO 4 i y.upThru] else [])) s' ∧ t.get 5 = s') ∧ t.n = 95 ∧ t.get 2 = .ptr H.n 0 ∧ t.get 3 = .ptr (H.n + 1) 0 ∧ t.get 6 = .lit (.int .i64 i) ∧ t.get 7 = .ptr h.n 0 ∧ t.get 8 = .ptr (h.n + 1) 0 ∧ t.get 9 = .lit (.int .i64 (wD x y)) ∧ t.get 12 = .lit (.int .i64 N) ∧ t.get 13 = .lit (.int .i64 i)) (fun k' K' hk => ?_) ?_
    · have LX := ld_at (T := tabOf Try.prog NT0) J6.X
      have LY := ld_at (T := tabOf Try.prog NT0) J6.Y
      unfold oC' at LX LY
      by_cases ht : (y.upThru != x.upThru) = true
      · rw [if_pos ht] at hk
        simp only [core, zrA, zrS, zrM, zrL, zrE, reduceCtorEq, zrD, ziE, ziL, ziN, hn, g2, g3, g6, g7, g8, g9, g12, g13, g5, LX, LY, ht]
        refine WOp_app (J6.push (kind := 4) (n := i) (value := y.upThru) (by have := J6.E.1; omega) ⟨by unfold I64; decide, iI, oky.2.2.2⟩ (by omega)) ?_
        rintro s4 h4 J4
        have v4 := J4.o.one
        simp only [core, zrA, zrS, zrM, zrL, zrE, reduceCtorEq, zrD, ziE, ziL, ziN, hn, g2, g3, g6, g7, g8, g9, g12, g13, v4]
        refine hk _ _ ⟨⟨s4, J4, ?_⟩, ?_⟩
        all_goals simp only [core, zrA, zrS, zrM, zrL, zrE, reduceCtorEq, zrD, ziE, ziL, ziN, hn, g2, g3, g6, g7, g8, g9, g12, g13]
      · rw [if_neg ht, List.append_nil] at hk
        have ht := eq_false_of_ne_true ht
        simp only [core, zrA, zrS, zrM, zrL, zrE, reduceCtorEq, zrD, ziE, ziL, ziN, hn, g2, g3, g6, g7, g8, g9, g12, g13, g5, LX, LY, ht]
        refine hk _ _ ⟨⟨_, J6, ?_⟩, ?_⟩
        all_goals simp only [core, zrA, zrS, zrM, zrL, zrE, reduceCtorEq, zrD, ziE, ziL, ziN, hn, g2, g3, g6, g7, g8, g9, g12, g13, g5]
    rintro t h7 ⟨⟨s7, J7, g5⟩, hn, g2, g3, g6, g7, g8, g9, g12, g13⟩
    simp only [core, zrA, zrS, zrM, zrL, zrE, reduceCtorEq, zrD, ziE, ziL, ziN, hn, g2, g3, g6, g7, g8, g9, g12, g13, g5, hwi]
    refine ih _ _ ⟨⟨s7, ?_, J7.E, ?_⟩, ?_⟩
    · have e : osL wD a b (i + 1) = (L3 ++ (if (y.upThru != x.upThru) = true then [chO 4 i y.upThru] else [])) := by
        show osL wD a b i ++ oneC (wD (osdG a i) (osdG b i)) (osdG a i) (osdG b i) i = _
        rw [hL3, hL2, hL1, hL0, ← hx, hyG, oneC_eq2]
        simp only [List.append_assoc]
      rw [e]
      exact J7.o
    all_goals simp only [core, zrA, zrS, zrM, zrL, zrE, reduceCtorEq, zrD, ziE, ziL, ziN, hn, g2, g3, g6, g7, g8, g9, g12, g13, g5]
  · rintro t h hc ⟨⟨s', oC, EH, g5⟩, hn, g2, g3, g12, g13⟩
    have os := oC.one
    simp only [core, zrA, zrS, zrM, zrL, zrE, reduceCtorEq, zrD, ziE, ziL, ziN, hn, g2, g3, g12, g13, g5, hc, os]
    exact ⟨EB.trans (EH.mono (by omega)), oC.mono0 (by omega)⟩
  · refine ⟨⟨_, .nil, Ext.refl _ _, ?_⟩, ?_⟩
    · simp only [core, zrA, zrS, zrM, zrL, zrE, reduceCtorEq, zrD, ziE, ziL, ziN]
    · simp only [core, zrA, zrS, zrM, zrL, zrE, reduceCtorEq, zrD, ziE, ziL, ziN]
      first | done | exact ⟨rfl, rfl⟩ | trivial
end Go.Proofs.Ytmfhagahkkhbeaa.Ex
end

section

set_option linter.unusedSimpArgs false
set_option linter.unusedVariables false
set_option maxRecDepth 10000
set_option maxHeartbeats 4000000
namespace Go.Proofs.Ytmfhagahkkhbeaa.Ex
open Go
def dfL10 (a b : MapD) : List ChD := osL wD a b b.osds.length ++ rsL a b
theorem sameB_comm (x y : BktD) : sameB x y = sameB y x := by
  rw [Bool.eq_iff_iff, sameB_eq, sameB_eq]
  exact eq_comm
structure TJ (hb h : AH) (l : List ChD) (s : AV) : Prop where
  o : OwnC (fun _ => True) hb.n h s l
  E : Ext hb.n hb h
theorem TJ.ext {hb h h' : AH} {l : List ChD} {s : AV} (j : TJ hb h l s) (e : Ext h.n h h') : TJ hb h' l s := ⟨j.o.ext e (Nat.le_refl _), j.E.trans (e.mono j.E.1)⟩
theorem TJ.push {hb h h1 : AH} {l : List ChD} {s va vw : AV} {q : Nat} {x : ChD} {e' : TypeId} (j : TJ hb h l s) (e : Ext h.n h h1)
    (A : h1.at q = some (.cells [.lit (.int .i64 x.kind), .lit (.int .i64 x.osd), .lit (.int .i64 x.value), .lit (.int .i64 x.pool.id), .lit (.int .i64 x.pool.size), .lit (.int .i64 x.pool.min), .lit (.int .i64 x.pool.pgs), .lit (.int .i64 x.bucket.id), .lit (.int .i64 x.bucket.kind), va, vw] e'))
    (ha : IsSl RInt (fun k => k < hb.n) h1 va x.bucket.items) (hw : IsSl RInt (fun k => k < hb.n) h1 vw x.bucket.weights) (hi : (I64 x.kind ∧ I64 x.osd ∧ I64 x.value) ∧ okP x.pool ∧ I64 x.bucket.id ∧ I64 x.bucket.kind) (hl : (l.length + 1) * 120 ≤ 140737488355328) :
    ∃ s' h', appendA (tabOf Try.prog NT0) h1 29 29 s (.sl q 0 1 (.kn 1)) = some (s', h') ∧ TJ hb h' (l ++ [x]) s' := by
  have f := j.E.1
  obtain ⟨s', h', a, o', f'⟩ := push_ch (cap := .kn 1) (j.o.ext e (Nat.le_refl _)) (by have := e.1; omega) A (ha.lift fun k hk _ => ⟨rfl, trivial, j.o.apartLt hk⟩) (hw.lift fun k hk _ => ⟨rfl, trivial, j.o.apartLt hk⟩) hi hl
  have fr : Fr h s h' s' := (Fr.ext e).trans f'
  exact ⟨s', h', a, o', j.E.trans ⟨fr.1, fun k hk => (fr.2 k (by omega) (j.o.apartLt hk)).1⟩⟩
theorem poolG_some {m : MapD} {id : Int} {q : PoolD} (h : poolF m id = some q) : poolG m id = q := by unfold poolG; rw [h]; rfl
theorem diff10_x {F : Nat → Prop} {H : AH} {a b : MapD} {vo vp vb uo up ub : AV} (hm : MpAt F H a vo vp vb) (hm2 : MpAt F H b uo up ub) (hF : ∀ k, F k → k < H.n)
    (oka : OkMp a) (okb : OkMp b) (iea : I64 a.epoch) (ila : I64 a.leaf) (ieb : I64 b.epoch) (ilb : I64 b.leaf)
    (hl : (4 * b.osds.length + (b.pools.length + a.buckets.length + 3 * b.buckets.length + 1)) * 120 ≤ 140737488351232)
    (hst : ∀ i n, i ≤ (dfL10 a b).length → applyC a ((dfL10 a b).take i) = (n, 0) → MpSz n ∧ OkMp n) :
    WC Try.prog (tabOf Try.prog NT0) S0 8 [mpV a vo vp vb, mpV b uo up ub] H fun r h' => Ext H.n H h' ∧ ∃ rv, r = .tup [rv, .lit (.int .i64 (dfR a b (dfL10 a b)).2)] ∧ IsSl RCh (fun k => k < h'.n) h' rv (dfR a b (dfL10 a b)).1 := by
  refine WC_fn Try.func8 rfl rfl ?_
  have o1 := hm.o.one
  have o2 := hm.p.one
  have o3 := hm.b.one
  have p1 := hm2.o.one
  have p2 := hm2.p.one
  have p3 := hm2.b.one
  have s1 := hm.o.isSl
  have s2 := hm.p.isSl
  have s3 := hm.b.isSl
  have t1 := hm2.o.isSl
  have t2 := hm2.p.isSl
  have t3 := hm2.b.isSl
  have d3 := hm.b.lenD
  have e2 := hm2.p.lenD
  have e3 := hm2.b.lenD
  obtain ⟨⟨la1, -⟩, ⟨la2, -⟩, la3, ha⟩ := id oka
  obtain ⟨⟨lb1, -⟩, ⟨lb2, -⟩, lb3, hb'⟩ := id okb
  have la3' := la3
  have lb2' := lb2
  have lb3' := lb3
  unfold Sm at lb2' lb3' la3'
  obtain ⟨hb, hhb⟩ : ∃ hb, hb = (H.push (mC a vo vp vb)).push (mC b uo up ub) := ⟨_, rfl⟩
  have EB : Ext H.n H hb := hhb ▸ ((Ext.refl _ _).push _ (Nat.le_refl _)).push _ (by rw [n_push]; omega)
  have A0 : hb.at H.n = some (mC a vo vp vb) := hhb ▸ (at_push_lt _ (by rw [n_push]; omega)).trans (at_push_n _ _)
  have B0 : hb.at (H.n + 1) = some (mC b uo up ub) := hhb ▸ at_push_n (H.push (mC a vo vp vb)) _
  have nb : hb.n = H.n + 2 := by rw [hhb, n_push, n_push]
  have ma := hm.ext EB (Nat.le_refl _)
  have mb := hm2.ext EB (Nat.le_refl _)
  unfold mC at hhb A0 B0
  have LA0 := ld_at (T := tabOf Try.prog NT0) A0
  have LB0 := ld_at (T := tabOf Try.prog NT0) B0
  have lA0 := at_lt A0
  have lB0 := at_lt B0
  have keep : ∀ h, Ext hb.n hb h → h.at H.n = some (mC a vo vp vb) ∧ h.at (H.n + 1) = some (mC b uo up ub) := fun h e => ⟨(e.2 _ lA0).trans A0, (e.2 _ lB0).trans B0⟩
  simp only [core, zrA, zrS, zrM, zrL, zrE, reduceCtorEq, zrD, ziE, ziL, ziN, Try.ntmps8, mpV, o1, o2, o3, p1, p2, p3, n_push, ← hhb, LA0, LB0, lA0, lB0]
  refine (osds10_x ma mb la1 lb1 (by omega)).mono ?_
  rintro s1' h1 ⟨E1, oo⟩
  obtain ⟨L0, hL0⟩ : ∃ L0, L0 = osL wD a b b.osds.length := ⟨_, rfl⟩
  have hL0n := osL_len wD a b b.osds.length
  rw [← hL0] at hL0n oo
  have j1 : TJ hb h1 L0 s1' := ⟨oo.monoG (fun _ _ => trivial), E1⟩
  have os1 := oo.one
  have LA1 := ld_at (T := tabOf Try.prog NT0) (keep _ E1).1
  have LB1 := ld_at (T := tabOf Try.prog NT0) (keep _ E1).2
  have lA1 := at_lt (keep _ E1).1
  have lB1 := at_lt (keep _ E1).2
  obtain ⟨N, hN⟩ : ∃ N, N = b.pools.length := ⟨_, rfl⟩
  rw [← hN] at e2
  simp only [core, zrA, zrS, zrM, zrL, zrE, reduceCtorEq, zrD, ziE, ziL, ziN, os1, LA1, LB1, lA1, lB1, t2, e2]
  refine WB_for N (fun i t h => (∃ s', TJ hb h (L0 ++ (b.pools.take i).flatMap (chP a)) s' ∧ t.get 6 = s') ∧ t.n = 143 ∧ t.get 2 = .ptr H.n 0 ∧ t.get 3 = .ptr (H.n + 1) 0 ∧ t.get 26 = up ∧ t.get 27 = .lit (.int .i64 N) ∧ t.get 28 = .lit (.int .i64 i)) ?_ ?_ _ _ ?_
  · rintro i t h hlt hc ⟨⟨s', j, g6⟩, hn, g2, g3, g26, g27, g28⟩ ih
    have hwi := wrap_succ (n := N) hlt (by omega)
    have hlen := fm_len (chP_len a) (b.pools.take i)
    rw [List.length_take] at hlen
    obtain ⟨p, hp⟩ : ∃ p, b.pools[i]? = some p := ⟨_, List.getElem?_eq_getElem (by omega)⟩
    have hltp : i < b.pools.length := by omega
    have f1 := j.E.1
    have LA := ld_at (T := tabOf Try.prog NT0) (keep _ j.E).1
    have lA := at_lt (keep _ j.E).1
    obtain ⟨cp, hcp, ld1, ld1'⟩ := (mb.ext j.E (Nat.le_refl _)).p.at (T := tabOf Try.prog NT0) RPool_z hp
    obtain ⟨rfl, ip⟩ := RPool_is.1 hcp
    have hfs : (b.pools.take (i + 1)).flatMap (chP a) = (b.pools.take i).flatMap (chP a) ++ chP a p := fm_succ hp
    have hsz : ((L0 ++ (b.pools.take i).flatMap (chP a)).length + 1) * 120 ≤ 140737488355328 := by
      rw [show (L0 ++ (b.pools.take i).flatMap (chP a)).length = L0.length + ((b.pools.take i).flatMap (chP a)).length from List.length_append]
      exact sz_aux hL0n hlen hltp hl
    have hcI : (I64 (chPl p).kind ∧ I64 (chPl p).osd ∧ I64 (chPl p).value) ∧ okP (chPl p).pool ∧ I64 (chPl p).bucket.id ∧ I64 (chPl p).bucket.kind := ⟨⟨by show I64 5; unfold I64; decide, I64z, I64z⟩, ip, I64z, I64z⟩
    obtain ⟨hA, hhA⟩ : ∃ hA, hA = h.push (.cells [.lit (.int .i64 p.id), .lit (.int .i64 p.size), .lit (.int .i64 p.min), .lit (.int .i64 p.pgs)] 52) := ⟨_, rfl⟩
    have eA : Ext h.n h hA := hhA ▸ (Ext.refl _ _).push _ (Nat.le_refl _)
    have nA : hA.n = h.n + 1 := by rw [hhA, n_push]
    have P0 : hA.at h.n = some (.cells [.lit (.int .i64 p.id), .lit (.int .i64 p.size), .lit (.int .i64 p.min), .lit (.int .i64 p.pgs)] 52) := hhA ▸ at_push_n _ _
    have LP0 := ld_at (T := tabOf Try.prog NT0) P0
    have lP0 := at_lt P0
    have LAA := ld_at (T := tabOf Try.prog NT0) (keep _ (j.ext eA).E).1
    have lAA := at_lt (keep _ (j.ext eA).E).1
    simp only [core, zrA, zrS, zrM, zrL, zrE, reduceCtorEq, zrD, ziE, ziL, ziN, hn, g2, g3, g26, g27, g28, hlt, hc, t2, e2, ld1, ld1', LAA, lAA, LP0, lP0, o1, o2, o3, ← hhA]
    refine (pool10_x p.id (ma.ext (j.ext eA).E (Nat.le_refl _)) la2).mono ?_
    rintro _ h3 ⟨e3', rfl⟩
    have e3h : Ext h.n h h3 := eA.trans (e3'.mono (by omega))
    have P3 := (e3'.2 _ lP0).trans P0
    have LP3 := ld_at (T := tabOf Try.prog NT0) P3
    have lP3 := at_lt P3
    obtain ⟨hB, hhB⟩ : ∃ hB, hB = h3.push (.cells [.lit (.int .i64 (poolG a p.id).id), .lit (.int .i64 (poolG a p.id).size), .lit (.int .i64 (poolG a p.id).min), .lit (.int .i64 (poolG a p.id).pgs)] 52) := ⟨_, rfl⟩
    have eB : Ext h3.n h3 hB := hhB ▸ (Ext.refl _ _).push _ (Nat.le_refl _)
    have G0 : hB.at h3.n = some (.cells [.lit (.int .i64 (poolG a p.id).id), .lit (.int .i64 (poolG a p.id).size), .lit (.int .i64 (poolG a p.id).min), .lit (.int .i64 (poolG a p.id).pgs)] 52) := hhB ▸ at_push_n _ _
    have LG0 := ld_at (T := tabOf Try.prog NT0) G0
    have lG0 := at_lt G0
    have P4 := (eB.2 _ lP3).trans P3
    have LP4 := ld_at (T := tabOf Try.prog NT0) P4
    have lP4 := at_lt P4
    have e4h : Ext h.n h hB := e3h.trans (eB.mono (by have := e3h.1; omega))
    have os4 := j.o.isSl
    have oo4 := j.o.one
    unfold poolV
    by_cases hpo : poolF a p.id = none
    · have hsm : (poolF a p.id).isSome = false := by rw [hpo]; rfl
      have hcp : chP a p = [chPl p] := by unfold chP; rw [hpo, if_neg fun hh => by cases hh]
      simp only [core, zrA, zrS, zrM, zrL, zrE, reduceCtorEq, zrD, ziE, ziL, ziN, hn, g2, g3, g26, g27, g28, g6, hsm, aundef, ← hhB, LP4, lP4, LG0, lG0]
      obtain ⟨hP, hhP⟩ : ∃ hP, hP = hB.push (.cells [.lit (.int .i64 5), .lit (.int .i64 0), .lit (.int .i64 0), .lit (.int .i64 p.id), .lit (.int .i64 p.size), .lit (.int .i64 p.min), .lit (.int .i64 p.pgs), .lit (.int .i64 0), .lit (.int .i64 0), .lit (.slice none 0 0), .lit (.slice none 0 0)] 54) := ⟨_, rfl⟩
      have e6 : Ext hB.n hB hP := hhP ▸ (Ext.refl _ _).push _ (Nat.le_refl _)
      have e6h := (e4h).trans (e6.mono (e4h).1)
      have PP : hP.at hB.n = some (.cells [.lit (.int .i64 5), .lit (.int .i64 0), .lit (.int .i64 0), .lit (.int .i64 p.id), .lit (.int .i64 p.size), .lit (.int .i64 p.min), .lit (.int .i64 p.pgs), .lit (.int .i64 0), .lit (.int .i64 0), .lit (.slice none 0 0), .lit (.slice none 0 0)] 54) := hhP ▸ at_push_n _ _
      rw [← hhP]
      have key := j.push (x := chPl p) e6h PP (.nil) (.nil) hcI hsz
      refine WOp_app key ?_
      rintro s6 h6 j6
      have w1 := j6.o.isSl
      have w2 := j6.o.one
      repeat (first | ((with_reducible refine WDM_cons ?_; simp only [dw1]; try simp only [dw2, zrA, zrM, zrR, zrO, zrE]); simp only [core, zrA, zrS, zrM, zrL, zrE, reduceCtorEq, zrD, ziE, ziL, ziN, cored, hn, g2, g3, g26, g27, g28, g6, w1, w2, hwi]) | simp only [core, zrA, zrS, zrM, zrL, zrE, reduceCtorEq, zrD, ziE, ziL, ziN, cored, hn, g2, g3, g26, g27, g28, g6, w1, w2, hwi])
      refine ih _ _ ⟨⟨s6, ?_, ?_⟩, ?_⟩
      · rw [hfs, hcp, ← List.append_assoc]
        exact j6
      all_goals simp only [core, zrA, zrS, zrM, zrL, zrE, reduceCtorEq, zrD, ziE, ziL, ziN, hn, g2, g3, g26, g27, g28]
    · obtain ⟨q, hq⟩ := Option.ne_none_iff_exists'.1 hpo
      have hsm : (poolF a p.id).isSome = true := by rw [hq]; rfl
      by_cases hqp : q = p
      · have hd : decide (poolG a p.id = p) = true := decide_eq_true (by rw [poolG_some hq]; exact hqp)
        simp only [core, zrA, zrS, zrM, zrL, zrE, reduceCtorEq, zrD, ziE, ziL, ziN, hn, g2, g3, g26, g27, g28, g6, hsm, aundef, ← hhB, LP4, lP4, LG0, lG0, a_neMpool, neMpool_eq, eqPool, hd, hwi]
        refine ih _ _ ⟨⟨s', ?_, ?_⟩, ?_⟩
        · rw [hfs, show chP a p = [] by unfold chP; rw [hq, hqp, if_pos rfl], List.append_nil]
          exact j.ext e4h
        all_goals simp only [core, zrA, zrS, zrM, zrL, zrE, reduceCtorEq, zrD, ziE, ziL, ziN, hn, g2, g3, g26, g27, g28, g6]
      · have hd : decide (poolG a p.id = p) = false := decide_eq_false (by rw [poolG_some hq]; exact hqp)
        have hcp : chP a p = [chPl p] := by unfold chP; rw [hq, if_neg fun hh => hqp (Option.some.inj hh)]
        simp only [core, zrA, zrS, zrM, zrL, zrE, reduceCtorEq, zrD, ziE, ziL, ziN, hn, g2, g3, g26, g27, g28, g6, hsm, aundef, ← hhB, LP4, lP4, LG0, lG0, a_neMpool, neMpool_eq, eqPool, hd, hwi]
        obtain ⟨hP, hhP⟩ : ∃ hP, hP = hB.push (.cells [.lit (.int .i64 5), .lit (.int .i64 0), .lit (.int .i64 0), .lit (.int .i64 p.id), .lit (.int .i64 p.size), .lit (.int .i64 p.min), .lit (.int .i64 p.pgs), .lit (.int .i64 0), .lit (.int .i64 0), .lit (.slice none 0 0), .lit (.slice none 0 0)] 54) := ⟨_, rfl⟩
        have e6 : Ext hB.n hB hP := hhP ▸ (Ext.refl _ _).push _ (Nat.le_refl _)
        have e6h := (e4h).trans (e6.mono (e4h).1)
        have PP : hP.at hB.n = some (.cells [.lit (.int .i64 5), .lit (.int .i64 0), .lit (.int .i64 0), .lit (.int .i64 p.id), .lit (.int .i64 p.size), .lit (.int .i64 p.min), .lit (.int .i64 p.pgs), .lit (.int .i64 0), .lit (.int .i64 0), .lit (.slice none 0 0), .lit (.slice none 0 0)] 54) := hhP ▸ at_push_n _ _
        rw [← hhP]
        have key := j.push (x := chPl p) e6h PP (.nil) (.nil) hcI hsz
        refine WOp_app key ?_
        rintro s6 h6 j6
        have w1 := j6.o.isSl
        have w2 := j6.o.one
        repeat (first | ((with_reducible refine WDM_cons ?_; simp only [dw1]; try simp only [dw2, zrA, zrM, zrR, zrO, zrE]); simp only [core, zrA, zrS, zrM, zrL, zrE, reduceCtorEq, zrD, ziE, ziL, ziN, cored, hn, g2, g3, g26, g27, g28, g6, w1, w2, hwi]) | simp only [core, zrA, zrS, zrM, zrL, zrE, reduceCtorEq, zrD, ziE, ziL, ziN, cored, hn, g2, g3, g26, g27, g28, g6, w1, w2, hwi])
        refine ih _ _ ⟨⟨s6, ?_, ?_⟩, ?_⟩
        · rw [hfs, hcp, ← List.append_assoc]
          exact j6
        all_goals simp only [core, zrA, zrS, zrM, zrL, zrE, reduceCtorEq, zrD, ziE, ziL, ziN, hn, g2, g3, g26, g27, g28]
  · rintro t h hc ⟨⟨s', j, g6⟩, hn, g2, g3, g26, g27, g28⟩
    rw [List.take_of_length_le (by omega)] at j
    obtain ⟨L1, hL1⟩ : ∃ L1, L1 = L0 ++ b.pools.flatMap (chP a) := ⟨_, rfl⟩
    have hPl := fm_len (chP_len a) b.pools
    have hL1n : L1.length = L0.length + (b.pools.flatMap (chP a)).length := by rw [hL1, List.length_append]
    rw [← hL1] at j
    have f1 := j.E.1
    have LA := ld_at (T := tabOf Try.prog NT0) (keep _ j.E).1
    have LB := ld_at (T := tabOf Try.prog NT0) (keep _ j.E).2
    have lA := at_lt (keep _ j.E).1
    have lB := at_lt (keep _ j.E).2
    obtain ⟨M, hM⟩ : ∃ M, M = a.buckets.length := ⟨_, rfl⟩
    rw [← hM] at d3
    simp only [core, zrA, zrS, zrM, zrL, zrE, reduceCtorEq, zrD, ziE, ziL, ziN, hn, g2, g3, g26, g27, g28, g6, hc, LA, LB, lA, lB, s3, d3]
    refine WB_for M (fun i t h => (∃ s', TJ hb h (L1 ++ (a.buckets.take i).flatMap (chG b)) s' ∧ t.get 6 = s') ∧ t.n = 143 ∧ t.get 2 = .ptr H.n 0 ∧ t.get 3 = .ptr (H.n + 1) 0 ∧ t.get 53 = vb ∧ t.get 54 = .lit (.int .i64 M) ∧ t.get 55 = .lit (.int .i64 i)) ?_ ?_ _ _ ?_
    · rintro i t h hlt hc ⟨⟨s', j, g6⟩, hn, g2, g3, g53, g54, g55⟩ ih
      have hwi := wrap_succ (n := M) hlt (by omega)
      have hlen := fm_len (chG_len b) (a.buckets.take i)
      rw [List.length_take] at hlen
      obtain ⟨x, hx⟩ : ∃ x, a.buckets[i]? = some x := ⟨_, List.getElem?_eq_getElem (by omega)⟩
      have hltp : i < a.buckets.length := by omega
      have f1 := j.E.1
      obtain ⟨cx, hcx, ld1, ld1'⟩ := (ma.ext j.E (Nat.le_refl _)).b.at (T := tabOf Try.prog NT0) RBkt_z hx
      obtain ⟨va, vw, rfl, xa, xw, ix⟩ := RBkt_is.1 hcx
      have y1 := xa.one
      have y2 := xw.one
      have hfs : (a.buckets.take (i + 1)).flatMap (chG b) = (a.buckets.take i).flatMap (chG b) ++ chG b x := fm_succ hx
      obtain ⟨hA, hhA⟩ : ∃ hA, hA = h.push (.cells [.lit (.int .i64 x.id), .lit (.int .i64 x.kind), va, vw] 50) := ⟨_, rfl⟩
      have eA : Ext h.n h hA := hhA ▸ (Ext.refl _ _).push _ (Nat.le_refl _)
      have nA : hA.n = h.n + 1 := by rw [hhA, n_push]
      have P0 : hA.at h.n = some (.cells [.lit (.int .i64 x.id), .lit (.int .i64 x.kind), va, vw] 50) := hhA ▸ at_push_n _ _
      have LP0 := ld_at (T := tabOf Try.prog NT0) P0
      have lP0 := at_lt P0
      have LBA := ld_at (T := tabOf Try.prog NT0) (keep _ (j.ext eA).E).2
      have lBA := at_lt (keep _ (j.ext eA).E).2
      simp only [core, zrA, zrS, zrM, zrL, zrE, reduceCtorEq, zrD, ziE, ziL, ziN, hn, g2, g3, g53, g54, g55, hlt, hc, s3, d3, ld1, ld1', y1, y2, LBA, lBA, LP0, lP0, p1, p2, p3, ← hhA]
      refine (bucketR_x x.id (mb.ext (j.ext eA).E (Nat.le_refl _)) lb3).mono ?_
      rintro _ h3 ⟨e3', wa, ww, rfl, ya, yw⟩
      have y3 := ya.one
      have y4 := yw.one
      have e3h : Ext h.n h h3 := eA.trans (e3'.mono (by omega))
      obtain ⟨hB, hhB⟩ : ∃ hB, hB = h3.push (.cells [.lit (.int .i64 (bucketG b x.id).id), .lit (.int .i64 (bucketG b x.id).kind), wa, ww] 50) := ⟨_, rfl⟩
      have eB : Ext h3.n h3 hB := hhB ▸ (Ext.refl _ _).push _ (Nat.le_refl _)
      have e4h : Ext h.n h hB := e3h.trans (eB.mono (by have := e3h.1; omega))
      have P4 := (eB.2 _ (by have := e3'.1; omega)).trans ((e3'.2 _ lP0).trans P0)
      have LP4 := ld_at (T := tabOf Try.prog NT0) P4
      have lP4 := at_lt P4
      have os4 := j.o.isSl
      have oo4 := j.o.one
      unfold bktV
      by_cases hsm : (bucketF b x.id).isSome = true
      · simp only [core, zrA, zrS, zrM, zrL, zrE, reduceCtorEq, zrD, ziE, ziL, ziN, hn, g2, g3, g53, g54, g55, g6, hsm, y3, y4, hwi, ← hhB]
        refine ih _ _ ⟨⟨s', ?_, ?_⟩, ?_⟩
        · rw [hfs, show chG b x = [] by unfold chG; rw [if_pos hsm], List.append_nil]
          exact j.ext e4h
        all_goals simp only [core, zrA, zrS, zrM, zrL, zrE, reduceCtorEq, zrD, ziE, ziL, ziN, hn, g2, g3, g53, g54, g55, g6]
      · have hcp : chG b x = [chB ⟨x.id, 0, [], []⟩] := by unfold chG; rw [if_neg hsm]
        have hsm := eq_false_of_ne_true hsm
        have hsz : ((L1 ++ (a.buckets.take i).flatMap (chG b)).length + 1) * 120 ≤ 140737488355328 := by
          rw [show (L1 ++ (a.buckets.take i).flatMap (chG b)).length = L1.length + ((a.buckets.take i).flatMap (chG b)).length from List.length_append, hL1n]
          exact sz_aux3 hL0n hPl (Nat.le_trans hlen (Nat.le_trans (Nat.min_le_left _ _) (by omega))) hl
        simp only [core, zrA, zrS, zrM, zrL, zrE, reduceCtorEq, zrD, ziE, ziL, ziN, hn, g2, g3, g53, g54, g55, g6, hsm, y3, y4, LP4, lP4, ← hhB]
        obtain ⟨hP, hhP⟩ : ∃ hP, hP = hB.push (.cells [.lit (.int .i64 6), .lit (.int .i64 0), .lit (.int .i64 0), .lit (.int .i64 0), .lit (.int .i64 0), .lit (.int .i64 0), .lit (.int .i64 0), .lit (.int .i64 x.id), .lit (.int .i64 0), .lit (.slice none 0 0), .lit (.slice none 0 0)] 54) := ⟨_, rfl⟩
        have e6 : Ext hB.n hB hP := hhP ▸ (Ext.refl _ _).push _ (Nat.le_refl _)
        have e6h := (e4h).trans (e6.mono (e4h).1)
        have PP : hP.at hB.n = some (.cells [.lit (.int .i64 6), .lit (.int .i64 0), .lit (.int .i64 0), .lit (.int .i64 0), .lit (.int .i64 0), .lit (.int .i64 0), .lit (.int .i64 0), .lit (.int .i64 x.id), .lit (.int .i64 0), .lit (.slice none 0 0), .lit (.slice none 0 0)] 54) := hhP ▸ at_push_n _ _
        rw [← hhP]
        have key := j.push (x := chB ⟨x.id, 0, [], []⟩) e6h PP (.nil) (.nil) ⟨⟨by show I64 6; unfold I64; decide, I64z, I64z⟩, okp0, ix.1, I64z⟩ hsz
        refine WOp_app key ?_
        rintro s6 h6 j6
        have w1 := j6.o.isSl
        have w2 := j6.o.one
        repeat (first | ((with_reducible refine WDM_cons ?_; simp only [dw1]; try simp only [dw2, zrA, zrM, zrR, zrO, zrE]); simp only [core, zrA, zrS, zrM, zrL, zrE, reduceCtorEq, zrD, ziE, ziL, ziN, cored, hn, g2, g3, g53, g54, g55, g6, w1, w2, hwi]) | simp only [core, zrA, zrS, zrM, zrL, zrE, reduceCtorEq, zrD, ziE, ziL, ziN, cored, hn, g2, g3, g53, g54, g55, g6, w1, w2, hwi])
        refine ih _ _ ⟨⟨s6, ?_, ?_⟩, ?_⟩
        · rw [hfs, hcp, ← List.append_assoc]
          exact j6
        all_goals simp only [core, zrA, zrS, zrM, zrL, zrE, reduceCtorEq, zrD, ziE, ziL, ziN, hn, g2, g3, g53, g54, g55]
    · rintro t h hc ⟨⟨s', j, g6⟩, hn, g2, g3, g53, g54, g55⟩
      rw [List.take_of_length_le (by omega)] at j
      simp only [core, zrA, zrS, zrM, zrL, zrE, reduceCtorEq, zrD, ziE, ziL, ziN, hn, g2, g3, g53, g54, g55, g6, hc]
      refine WB_ind (fun (k : Nat) t h' => k ≤ 3 ∧ (∃ s', TJ hb h' (L1 ++ (a.buckets.flatMap (chG b) ++ bkN a b k)) s' ∧ t.get 6 = s') ∧ t.n = 143 ∧ t.get 2 = .ptr H.n 0 ∧ t.get 3 = .ptr (H.n + 1) 0 ∧ t.get 15 = .lit (.int .i64 ((k : Int) + 1))) (fun k => 4 - k) ?_ 0 _ _ ?_
      · rintro k t h ⟨hk3, ⟨s', j, g6⟩, hn, g2, g3, g15⟩ ih
        have LB := ld_at (T := tabOf Try.prog NT0) (keep _ j.E).2
        have lB := at_lt (keep _ j.E).2
        have LA := ld_at (T := tabOf Try.prog NT0) (keep _ j.E).1
        have lA := at_lt (keep _ j.E).1
        have os := j.o.isSl
        have oo := j.o.one
        by_cases hk4 : k = 3
        · subst hk4
          have hc1 : ((((3 : Nat) : Int) + 1) ≤ 3) = False := by decide
          have j : TJ hb h (L1 ++ bkL a b) s' := j
          have eqL : L1 ++ bkL a b ++ chL a b = dfL10 a b := by
            rw [hL1, hL0]
            unfold dfL10 rsL
            simp only [List.append_assoc]
          have hbk := bkL_len a b
          have hsz7 : ((L1 ++ bkL a b).length + 1) * 120 ≤ 140737488355328 := by
            rw [show (L1 ++ bkL a b).length = L1.length + (bkL a b).length from List.length_append, hL1n]
            exact sz_aux3 hL0n hPl hbk hl
          simp only [core, zrA, zrS, zrM, zrL, zrE, reduceCtorEq, zrD, ziE, ziL, ziN, hn, g2, g3, g15, g6, hc1]
          simp only [corem, WB_cond_s, put, ldL, WB_label, List.nil_append, List.drop_zero, List.take_zero, zrA, zrS, zrM, zrL, zrE, reduceCtorEq, zrD, ziE, ziL, ziN, hn, g2, g3, g15, g6, LA, LB, lA, lB, -WB_cond_s]
          refine WB_cut (fun t h' => (∃ s', TJ hb h' (dfL10 a b) s' ∧ t.get 6 = s') ∧ t.n = 143 ∧ t.get 2 = .ptr H.n 0 ∧ t.get 3 = .ptr (H.n + 1) 0) (fun k' K' hk => ?_) ?_
          · by_cases hlf : (a.leaf != b.leaf) = true
            · have hcp : chL a b = [chLf b.leaf] := by unfold chL; rw [if_neg (bne_iff_ne.1 hlf)]
              simp only [core, zrA, zrS, zrM, zrL, zrE, reduceCtorEq, zrD, ziE, ziL, ziN, hn, g2, g3, g15, g6, hlf, LB, lB]
              obtain ⟨hP, hhP⟩ : ∃ hP, hP = h.push (.cells [.lit (.int .i64 7), .lit (.int .i64 0), .lit (.int .i64 b.leaf), .lit (.int .i64 0), .lit (.int .i64 0), .lit (.int .i64 0), .lit (.int .i64 0), .lit (.int .i64 0), .lit (.int .i64 0), .lit (.slice none 0 0), .lit (.slice none 0 0)] 54) := ⟨_, rfl⟩
              have e6 : Ext h.n h hP := hhP ▸ (Ext.refl _ _).push _ (Nat.le_refl _)
              have e6h := ((Ext.refl h.n h)).trans (e6.mono ((Ext.refl h.n h)).1)
              have PP : hP.at h.n = some (.cells [.lit (.int .i64 7), .lit (.int .i64 0), .lit (.int .i64 b.leaf), .lit (.int .i64 0), .lit (.int .i64 0), .lit (.int .i64 0), .lit (.int .i64 0), .lit (.int .i64 0), .lit (.int .i64 0), .lit (.slice none 0 0), .lit (.slice none 0 0)] 54) := hhP ▸ at_push_n _ _
              rw [← hhP]
              have key := j.push (x := chLf b.leaf) e6h PP (.nil) (.nil) ⟨⟨by show I64 7; unfold I64; decide, I64z, ilb⟩, okp0, I64z, I64z⟩ hsz7
              refine WOp_app key ?_
              rintro s6 h6 j6
              have w1 := j6.o.isSl
              have w2 := j6.o.one
              repeat (first | ((with_reducible refine WDM_cons ?_; simp only [dw1]; try simp only [dw2, zrA, zrM, zrR, zrO, zrE]); simp only [core, zrA, zrS, zrM, zrL, zrE, reduceCtorEq, zrD, ziE, ziL, ziN, cored, hn, g2, g3, g15, g6, w1, w2, oo]) | simp only [core, zrA, zrS, zrM, zrL, zrE, reduceCtorEq, zrD, ziE, ziL, ziN, cored, hn, g2, g3, g15, g6, w1, w2, oo])
              rw [← hcp, eqL] at j6
              refine hk _ _ ⟨⟨s6, j6, ?_⟩, ?_⟩
              all_goals simp only [core, zrA, zrS, zrM, zrL, zrE, reduceCtorEq, zrD, ziE, ziL, ziN, hn, g2, g3, g15]
            · have hlf2 := eq_false_of_ne_true hlf
              have hcp : chL a b = [] := by unfold chL; rw [if_pos (Classical.not_not.1 fun hh => hlf (bne_iff_ne.2 hh))]
              rw [hcp, List.append_nil] at eqL
              rw [eqL] at j
              simp only [core, zrA, zrS, zrM, zrL, zrE, reduceCtorEq, zrD, ziE, ziL, ziN, hn, g2, g3, g15, g6, hlf2]
              refine hk _ _ ⟨⟨s', j, ?_⟩, ?_⟩
              all_goals simp only [core, zrA, zrS, zrM, zrL, zrE, reduceCtorEq, zrD, ziE, ziL, ziN, hn, g2, g3, g15, g6]
          rintro t h7 ⟨⟨s7, j7, g6⟩, hn, g2, g3⟩
          have LA7 := ld_at (T := tabOf Try.prog NT0) (keep _ j7.E).1
          have lA7 := at_lt (keep _ j7.E).1
          have LB7 := ld_at (T := tabOf Try.prog NT0) (keep _ j7.E).2
          have lB7 := at_lt (keep _ j7.E).2
          have os7 := j7.o.isSl
          have o7 := j7.o.one
          have f7 := j7.E.1
          have mT : MpAt (fun _ => True) h7 a vo vp vb := ⟨(ma.ext j7.E (Nat.le_refl _)).o.lift fun _ _ _ => ⟨rfl, trivial⟩, (ma.ext j7.E (Nat.le_refl _)).p.lift fun _ _ _ => ⟨rfl, trivial⟩, (ma.ext j7.E (Nat.le_refl _)).b.lift fun _ _ _ => ⟨rfl, trivial⟩⟩
          have cT : IsSl RCh (fun _ => True) h7 s7 (dfL10 a b) := j7.o.toSl (fun _ _ => trivial) (fun _ _ => trivial)
          have hlen : (dfL10 a b).length ≤ 4 * b.osds.length + (b.pools.length + a.buckets.length + 3 * b.buckets.length + 1) := by
            have h1 := osL_len wD a b b.osds.length
            have h2 := rsL_len a b
            unfold dfL10
            rw [List.length_append]
            omega
          have hno : NoB (dfL10 a b) := (osL_no wD a b _).append (rsL_no hb')
          simp only [core, zrA, zrS, zrM, zrL, zrE, reduceCtorEq, zrD, ziE, ziL, ziN, hn, g2, g3, g6, LA7, LB7, lA7, lB7, o1, o2, o3, o7]
          refine (Apply10_x ⟨b.epoch, dfL10 a b⟩ mT oka iea ieb cT (sz_aux4 hlen hl) hno hst).mono ?_
          rintro _ h8 ⟨e8, ro, rp, rb, rfl, m8⟩
          have q1 := m8.o.one
          have q2 := m8.p.one
          have q3 := m8.b.one
          have f8 := e8.1
          obtain ⟨m', hm'⟩ : ∃ m', m' = (applyD a ⟨b.epoch, dfL10 a b⟩).1 := ⟨_, rfl⟩
          obtain ⟨er, her⟩ : ∃ er, er = (applyD a ⟨b.epoch, dfL10 a b⟩).2 := ⟨_, rfl⟩
          rw [← hm'] at m8
          rw [← hm', ← her]
          obtain ⟨hD, hhD⟩ : ∃ hD, hD = h8.push (.cells [.lit (.int .i64 m'.epoch), ro, rp, rb, .lit (.int .i64 m'.leaf)] 26) := ⟨_, rfl⟩
          have eD8 : Ext h8.n h8 hD := hhD ▸ (Ext.refl _ _).push _ (Nat.le_refl _)
          have eD : Ext h7.n h7 hD := e8.trans (eD8.mono f8)
          have jD := j7.ext eD
          have DD : hD.at h8.n = some (.cells [.lit (.int .i64 m'.epoch), ro, rp, rb, .lit (.int .i64 m'.leaf)] 26) := hhD ▸ at_push_n _ _
          have LDD := ld_at (T := tabOf Try.prog NT0) DD
          have lDD := at_lt DD
          have mD := m8.ext eD8 (Nat.le_refl _)
          have LB9 := ld_at (T := tabOf Try.prog NT0) (keep _ jD.E).2
          have lB9 := at_lt (keep _ jD.E).2
          have EH : Ext H.n H hD := EB.trans (jD.E.mono (by omega))
          unfold mpV
          by_cases he : er = 0
          · have hen : (er != 0) = false := by rw [he]; rfl
            have okm : OkMp m' := hm' ▸ applyD_ok hst (her ▸ he)
            simp only [core, zrA, zrS, zrM, zrL, zrE, reduceCtorEq, zrD, ziE, ziL, ziN, hn, g2, g3, g6, q1, q2, q3, hen, LDD, lDD, LB9, lB9, p1, p2, p3, aundef, ← hhD]
            refine (sameR10_x mD (mb.ext jD.E (Nat.le_refl _)) okm).mono ?_
            rintro _ h9 ⟨e9, rfl⟩
            have j9 := jD.ext e9
            have EH9 := EH.trans (e9.mono EH.1)
            have o9 := j9.o.one
            by_cases hsm : m' = b
            · have hsd : sameD m' b = true := decide_eq_true hsm
              have hR : dfR a b (dfL10 a b) = (dfL10 a b, 0) := by unfold dfR; rw [if_pos ⟨her ▸ he, hm' ▸ hsm⟩]
              simp only [core, zrA, zrS, zrM, zrL, zrE, reduceCtorEq, zrD, ziE, ziL, ziN, hn, g2, g3, g6, hsd, aundef, o9, hR]
              exact ⟨EH9, s7, rfl, (j9.o.toSl (F := fun _ => True) (fun _ _ => trivial) (fun _ _ => trivial)).lift fun k _ hk => ⟨rfl, hk⟩⟩
            · have hsd : sameD m' b = false := decide_eq_false hsm
              have hR : dfR a b (dfL10 a b) = ([], 22) := by unfold dfR; rw [if_neg fun hh => hsm (hm' ▸ hh.2)]
              simp only [core, zrA, zrS, zrM, zrL, zrE, reduceCtorEq, zrD, ziE, ziL, ziN, hn, g2, g3, g6, hsd, aundef, hR]
              exact ⟨EH9, _, rfl, .nil⟩
          · have hen : (er != 0) = true := bne_iff_ne.2 he
            have hR : dfR a b (dfL10 a b) = ([], 22) := by unfold dfR; rw [if_neg fun hh => he (her ▸ hh.1)]
            simp only [core, zrA, zrS, zrM, zrL, zrE, reduceCtorEq, zrD, ziE, ziL, ziN, hn, g2, g3, g6, q1, q2, q3, hen, LDD, lDD, LB9, lB9, p1, p2, p3, aundef, hR, ← hhD]
            exact ⟨EH, _, rfl, .nil⟩
        have hc1 : (((k : Int) + 1) ≤ 3) = True := by simp only [eq_iff_iff, iff_true]; omega
        have hwk : IntKind.i64.wrap ((k : Int) + 1 + 1) = (((k + 1 : Nat) : Int) + 1) := (wrap_in (by omega) (by omega)).trans (by omega)
        obtain ⟨K, hK⟩ : ∃ K, K = b.buckets.length := ⟨_, rfl⟩
        have e3 := e3
        rw [← hK] at e3
        have hbn := bkN_len a b k
        have hgn := fm_len (chG_len b) a.buckets
        have hkN : k * b.buckets.length ≤ 2 * b.buckets.length := Nat.mul_le_mul_right _ (by omega)
        obtain ⟨L2, hL2⟩ : ∃ L2, L2 = L1 ++ (a.buckets.flatMap (chG b) ++ bkN a b k) := ⟨_, rfl⟩
        have hL2n : L2.length = L1.length + ((a.buckets.flatMap (chG b)).length + (bkN a b k).length) := by rw [hL2, List.length_append, List.length_append]
        rw [← hL2] at j
        simp only [core, zrA, zrS, zrM, zrL, zrE, reduceCtorEq, zrD, ziE, ziL, ziN, hn, g2, g3, g15, g6, hc1, LB, lB, t3, e3]
        refine WB_for K (fun i t h => (∃ s', TJ hb h (L2 ++ (b.buckets.take i).flatMap (chK a ((k : Int) + 1))) s' ∧ t.get 6 = s') ∧ t.n = 143 ∧ t.get 2 = .ptr H.n 0 ∧ t.get 3 = .ptr (H.n + 1) 0 ∧ t.get 15 = .lit (.int .i64 ((k : Int) + 1)) ∧ t.get 81 = ub ∧ t.get 82 = .lit (.int .i64 K) ∧ t.get 83 = .lit (.int .i64 i)) ?_ ?_ _ _ ?_
        · rintro i t h hlt hc ⟨⟨s', j, g6⟩, hn, g2, g3, g15, g81, g82, g83⟩ ih2
          have hwi := wrap_succ (n := K) hlt (by omega)
          have hlen := fm_len (chK_len a ((k : Int) + 1)) (b.buckets.take i)
          rw [List.length_take] at hlen
          obtain ⟨y, hy⟩ : ∃ y, b.buckets[i]? = some y := ⟨_, List.getElem?_eq_getElem (by omega)⟩
          have hym := List.mem_of_getElem? hy
          have hltp : i < b.buckets.length := by omega
          have f1 := j.E.1
          obtain ⟨cx, hcx, ld1, ld1'⟩ := (mb.ext j.E (Nat.le_refl _)).b.at (T := tabOf Try.prog NT0) RBkt_z hy
          obtain ⟨va, vw, rfl, xa, xw, ix⟩ := RBkt_is.1 hcx
          have y1 := xa.one
          have y2 := xw.one
          have hfs : (b.buckets.take (i + 1)).flatMap (chK a ((k : Int) + 1)) = (b.buckets.take i).flatMap (chK a ((k : Int) + 1)) ++ chK a ((k : Int) + 1) y := fm_succ hy
          have hsz : ((L2 ++ (b.buckets.take i).flatMap (chK a ((k : Int) + 1))).length + 1) * 120 ≤ 140737488355328 := by
            rw [show (L2 ++ (b.buckets.take i).flatMap (chK a ((k : Int) + 1))).length = L2.length + ((b.buckets.take i).flatMap (chK a ((k : Int) + 1))).length from List.length_append, hL2n, hL1n, Nat.add_assoc (L0.length + _)]
            refine sz_aux3 hL0n hPl ?_ hl
            have := Nat.min_le_left i b.buckets.length
            omega
          have hcI : (I64 (chB y).kind ∧ I64 (chB y).osd ∧ I64 (chB y).value) ∧ okP (chB y).pool ∧ I64 (chB y).bucket.id ∧ I64 (chB y).bucket.kind := ⟨⟨by show I64 6; unfold I64; decide, I64z, I64z⟩, okp0, ix.1, ix.2⟩
          obtain ⟨hA, hhA⟩ : ∃ hA, hA = h.push (.cells [.lit (.int .i64 y.id), .lit (.int .i64 y.kind), va, vw] 50) := ⟨_, rfl⟩
          have eA : Ext h.n h hA := hhA ▸ (Ext.refl _ _).push _ (Nat.le_refl _)
          have nA : hA.n = h.n + 1 := by rw [hhA, n_push]
          have P0 : hA.at h.n = some (.cells [.lit (.int .i64 y.id), .lit (.int .i64 y.kind), va, vw] 50) := hhA ▸ at_push_n _ _
          have LP0 := ld_at (T := tabOf Try.prog NT0) P0
          have lP0 := at_lt P0
          have LAA := ld_at (T := tabOf Try.prog NT0) (keep _ (j.ext eA).E).1
          have lAA := at_lt (keep _ (j.ext eA).E).1
          simp only [core, zrA, zrS, zrM, zrL, zrE, reduceCtorEq, zrD, ziE, ziL, ziN, hn, g2, g3, g15, g81, g82, g83, hlt, hc, t3, e3, ld1, ld1', y1, y2, LAA, lAA, LP0, lP0, o1, o2, o3, ← hhA]
          refine (bucketR_x y.id (ma.ext (j.ext eA).E (Nat.le_refl _)) la3).mono ?_
          rintro _ h3 ⟨e3', wa, ww, rfl, ya, yw⟩
          have y3 := ya.one
          have y4 := yw.one
          have e3h : Ext h.n h h3 := eA.trans (e3'.mono (by omega))
          obtain ⟨hB, hhB⟩ : ∃ hB, hB = h3.push (.cells [.lit (.int .i64 (bucketG a y.id).id), .lit (.int .i64 (bucketG a y.id).kind), wa, ww] 50) := ⟨_, rfl⟩
          have eB : Ext h3.n h3 hB := hhB ▸ (Ext.refl _ _).push _ (Nat.le_refl _)
          have B0' : hB.at h3.n = some (.cells [.lit (.int .i64 (bucketG a y.id).id), .lit (.int .i64 (bucketG a y.id).kind), wa, ww] 50) := hhB ▸ at_push_n _ _
          have LB0' := ld_at (T := tabOf Try.prog NT0) B0'
          have lB0' := at_lt B0'
          have e4h : Ext h.n h hB := e3h.trans (eB.mono (by have := e3h.1; omega))
          have P4 := (eB.2 _ (by have := e3'.1; omega)).trans ((e3'.2 _ lP0).trans P0)
          have LP4 := ld_at (T := tabOf Try.prog NT0) P4
          have lP4 := at_lt P4
          have os4 := j.o.isSl
          have oo4 := j.o.one
          have xaB := xa.ext e4h (Nat.le_refl _)
          have xwB := xw.ext e4h (Nat.le_refl _)
          have yaB := ya.ext eB (Nat.le_refl _)
          have ywB := yw.ext eB (Nat.le_refl _)
          have z1 := xa.isSl
          have z2 := xw.isSl
          have FH : ∀ k, F k → k < hb.n := fun k hk => by have := hF k hk; omega
          unfold bktV
          have skip : chK a ((k : Int) + 1) y = [] → ∀ (h' : AH) (t : TM), Ext h.n h h' → (t.get 6 = s' ∧ t.n = 143 ∧ t.get 2 = .ptr H.n 0 ∧ t.get 3 = .ptr (H.n + 1) 0 ∧ t.get 15 = .lit (.int .i64 ((k : Int) + 1)) ∧ t.get 81 = ub ∧ t.get 82 = .lit (.int .i64 K) ∧ t.get 83 = .lit (.int .i64 ((i + 1 : Nat) : Int))) → (∃ s', TJ hb h' (L2 ++ (b.buckets.take (i + 1)).flatMap (chK a ((k : Int) + 1))) s' ∧ t.get 6 = s') ∧ t.n = 143 ∧ t.get 2 = .ptr H.n 0 ∧ t.get 3 = .ptr (H.n + 1) 0 ∧ t.get 15 = .lit (.int .i64 ((k : Int) + 1)) ∧ t.get 81 = ub ∧ t.get 82 = .lit (.int .i64 K) ∧ t.get 83 = .lit (.int .i64 ((i + 1 : Nat) : Int)) := fun hn h' t e ht => ⟨⟨s', by rw [hfs, hn, List.append_nil]; exact j.ext e, ht.1⟩, ht.2⟩
          by_cases hkd : (y.kind == (k : Int) + 1) = true
          · have hkd' : y.kind = (k : Int) + 1 := eq_of_beq hkd
            by_cases hsm : (bucketF a y.id).isSome = true
            · have gok : Sm 8 (bucketG a y.id).items ∧ Sm 8 (bucketG a y.id).weights := by
                unfold bucketG
                by_cases hq : bucketF a y.id = none
                · rw [hq]; exact ⟨sm_nil, sm_nil⟩
                · obtain ⟨z, hq⟩ := Option.ne_none_iff_exists'.1 hq
                  rw [hq]
                  refine ha z ?_
                  unfold bucketF at hq
                  exact List.mem_of_find?_eq_some hq
              simp only [core, zrA, zrS, zrM, zrL, zrE, reduceCtorEq, zrD, ziE, ziL, ziN, hn, g2, g3, g15, g81, g82, g83, g6, y1, y2, y3, y4, LP4, lP4, LB0', lB0', hkd, hsm, aundef, ← hhB]
              refine (sameBktR_x y (bucketG a y.id) xaB xwB yaB ywB (hb' y hym).1 (hb' y hym).2).mono ?_
              rintro _ h5 ⟨e5, rfl⟩
              have e5h : Ext h.n h h5 := e4h.trans (e5.mono e4h.1)
              have P5 := (e5.2 _ lP4).trans P4
              have LP5 := ld_at (T := tabOf Try.prog NT0) P5
              have lP5 := at_lt P5
              by_cases hsb : sameB y (bucketG a y.id) = true
              · simp only [core, zrA, zrS, zrM, zrL, zrE, reduceCtorEq, zrD, ziE, ziL, ziN, hn, g2, g3, g15, g81, g82, g83, g6, hwi, hsb, aundef]
                refine ih2 _ _ (skip ?_ _ _ e5h ?_)
                · unfold chK
                  rw [if_neg fun hh => hh.2 ⟨hsm, by rw [sameB_comm]; exact hsb⟩]
                · refine ⟨?_, ?_⟩
                  all_goals simp only [core, zrA, zrS, zrM, zrL, zrE, reduceCtorEq, zrD, ziE, ziL, ziN, hn, g2, g3, g15, g81, g82, g83, g6]
              · have hck : chK a ((k : Int) + 1) y = [chB y] := by
                  unfold chK
                  rw [if_pos ⟨hkd', fun hh => hsb (by rw [sameB_comm]; exact hh.2)⟩]
                have hsb := eq_false_of_ne_true hsb
                simp only [core, zrA, zrS, zrM, zrL, zrE, reduceCtorEq, zrD, ziE, ziL, ziN, hn, g2, g3, g15, g81, g82, g83, g6, hsb, aundef, y1, y2, LP5, lP5]
                obtain ⟨hP, hhP⟩ : ∃ hP, hP = h5.push (.cells [.lit (.int .i64 6), .lit (.int .i64 0), .lit (.int .i64 0), .lit (.int .i64 0), .lit (.int .i64 0), .lit (.int .i64 0), .lit (.int .i64 0), .lit (.int .i64 y.id), .lit (.int .i64 y.kind), va, vw] 54) := ⟨_, rfl⟩
                have e6 : Ext h5.n h5 hP := hhP ▸ (Ext.refl _ _).push _ (Nat.le_refl _)
                have e6h := (e5h).trans (e6.mono (e5h).1)
                have PP : hP.at h5.n = some (.cells [.lit (.int .i64 6), .lit (.int .i64 0), .lit (.int .i64 0), .lit (.int .i64 0), .lit (.int .i64 0), .lit (.int .i64 0), .lit (.int .i64 0), .lit (.int .i64 y.id), .lit (.int .i64 y.kind), va, vw] 54) := hhP ▸ at_push_n _ _
                rw [← hhP]
                have key := j.push (x := chB y) e6h PP ((xa.ext e6h (Nat.le_refl _)).lift fun k hk _ => ⟨rfl, FH k hk⟩) ((xw.ext e6h (Nat.le_refl _)).lift fun k hk _ => ⟨rfl, FH k hk⟩) hcI hsz
                refine WOp_app key ?_
                rintro s6 h6 j6
                have w1 := j6.o.isSl
                have w2 := j6.o.one
                repeat (first | ((with_reducible refine WDM_cons ?_; simp only [dw1]; try simp only [dw2, zrA, zrM, zrR, zrO, zrE]); simp only [core, zrA, zrS, zrM, zrL, zrE, reduceCtorEq, zrD, ziE, ziL, ziN, cored, hn, g2, g3, g15, g81, g82, g83, g6, w1, w2, hwi]) | simp only [core, zrA, zrS, zrM, zrL, zrE, reduceCtorEq, zrD, ziE, ziL, ziN, cored, hn, g2, g3, g15, g81, g82, g83, g6, w1, w2, hwi])
                refine ih2 _ _ ⟨⟨s6, ?_, ?_⟩, ?_⟩
                · rw [hfs, hck, ← List.append_assoc]
                  exact j6
                all_goals simp only [core, zrA, zrS, zrM, zrL, zrE, reduceCtorEq, zrD, ziE, ziL, ziN, hn, g2, g3, g15, g81, g82, g83]
            · have hck : chK a ((k : Int) + 1) y = [chB y] := by
                unfold chK
                rw [if_pos ⟨hkd', fun hh => hsm hh.1⟩]
              have hsm := eq_false_of_ne_true hsm
              simp only [core, zrA, zrS, zrM, zrL, zrE, reduceCtorEq, zrD, ziE, ziL, ziN, hn, g2, g3, g15, g81, g82, g83, g6, y1, y2, y3, y4, LP4, lP4, LB0', lB0', hkd, hsm, aundef, ← hhB]
              obtain ⟨hP, hhP⟩ : ∃ hP, hP = hB.push (.cells [.lit (.int .i64 6), .lit (.int .i64 0), .lit (.int .i64 0), .lit (.int .i64 0), .lit (.int .i64 0), .lit (.int .i64 0), .lit (.int .i64 0), .lit (.int .i64 y.id), .lit (.int .i64 y.kind), va, vw] 54) := ⟨_, rfl⟩
              have e6 : Ext hB.n hB hP := hhP ▸ (Ext.refl _ _).push _ (Nat.le_refl _)
              have e6h := (e4h).trans (e6.mono (e4h).1)
              have PP : hP.at hB.n = some (.cells [.lit (.int .i64 6), .lit (.int .i64 0), .lit (.int .i64 0), .lit (.int .i64 0), .lit (.int .i64 0), .lit (.int .i64 0), .lit (.int .i64 0), .lit (.int .i64 y.id), .lit (.int .i64 y.kind), va, vw] 54) := hhP ▸ at_push_n _ _
              rw [← hhP]
              have key := j.push (x := chB y) e6h PP ((xa.ext e6h (Nat.le_refl _)).lift fun k hk _ => ⟨rfl, FH k hk⟩) ((xw.ext e6h (Nat.le_refl _)).lift fun k hk _ => ⟨rfl, FH k hk⟩) hcI hsz
              refine WOp_app key ?_
              rintro s6 h6 j6
              have w1 := j6.o.isSl
              have w2 := j6.o.one
              repeat (first | ((with_reducible refine WDM_cons ?_; simp only [dw1]; try simp only [dw2, zrA, zrM, zrR, zrO, zrE]); simp only [core, zrA, zrS, zrM, zrL, zrE, reduceCtorEq, zrD, ziE, ziL, ziN, cored, hn, g2, g3, g15, g81, g82, g83, g6, w1, w2, hwi]) | simp only [core, zrA, zrS, zrM, zrL, zrE, reduceCtorEq, zrD, ziE, ziL, ziN, cored, hn, g2, g3, g15, g81, g82, g83, g6, w1, w2, hwi])
              refine ih2 _ _ ⟨⟨s6, ?_, ?_⟩, ?_⟩
              · rw [hfs, hck, ← List.append_assoc]
                exact j6
              all_goals simp only [core, zrA, zrS, zrM, zrL, zrE, reduceCtorEq, zrD, ziE, ziL, ziN, hn, g2, g3, g15, g81, g82, g83]
          · have hkf := eq_false_of_ne_true hkd
            simp only [core, zrA, zrS, zrM, zrL, zrE, reduceCtorEq, zrD, ziE, ziL, ziN, hn, g2, g3, g15, g81, g82, g83, g6, y1, y2, y3, y4, LP4, lP4, LB0', lB0', hkf, hwi, aundef, ← hhB]
            refine ih2 _ _ (skip ?_ _ _ e4h ?_)
            · unfold chK
              rw [if_neg fun hh => hkd (beq_iff_eq.2 hh.1)]
            · refine ⟨?_, ?_⟩
              all_goals simp only [core, zrA, zrS, zrM, zrL, zrE, reduceCtorEq, zrD, ziE, ziL, ziN, hn, g2, g3, g15, g81, g82, g83, g6]
        · rintro t h hc ⟨⟨s', j, g6⟩, hn, g2, g3, g15, g81, g82, g83⟩
          rw [List.take_of_length_le (by omega)] at j
          simp only [core, zrA, zrS, zrM, zrL, zrE, reduceCtorEq, zrD, ziE, ziL, ziN, hn, g2, g3, g15, g81, g82, g83, g6, hc, hwk]
          refine ih (k + 1) _ _ ⟨by omega, ⟨s', ?_, ?_⟩, ?_⟩ (by omega)
          · rw [show L1 ++ (a.buckets.flatMap (chG b) ++ bkN a b (k + 1)) = L2 ++ b.buckets.flatMap (chK a ((k : Int) + 1)) by
              rw [hL2, List.append_assoc, List.append_assoc]; rfl]
            exact j
          all_goals simp only [core, zrA, zrS, zrM, zrL, zrE, reduceCtorEq, zrD, ziE, ziL, ziN, hn, g2, g3, g15, g81, g82, g83, g6]
        · refine ⟨⟨s', by simpa using j, ?_⟩, ?_⟩
          all_goals simp only [core, zrA, zrS, zrM, zrL, zrE, reduceCtorEq, zrD, ziE, ziL, ziN, hn, g2, g3, g15, g6]
          first | done | exact ⟨rfl, rfl⟩ | trivial
      · refine ⟨by omega, ⟨s', by simpa [bkN] using j, ?_⟩, ?_⟩
        all_goals simp only [core, zrA, zrS, zrM, zrL, zrE, reduceCtorEq, zrD, ziE, ziL, ziN, hn, g2, g3, g53, g54, g55, g6]
        first | done | trivial
    · refine ⟨⟨s', by simpa using j, ?_⟩, ?_⟩
      all_goals simp only [core, zrA, zrS, zrM, zrL, zrE, reduceCtorEq, zrD, ziE, ziL, ziN, hn, g2, g3, g26, g27, g28, g6]
      first | done | exact ⟨rfl, rfl⟩ | trivial
  · refine ⟨⟨s1', by simpa using j1, ?_⟩, ?_⟩
    all_goals simp only [core, zrA, zrS, zrM, zrL, zrE, reduceCtorEq, zrD, ziE, ziL, ziN]
    first | done | exact ⟨rfl, rfl⟩ | trivial
end Go.Proofs.Ytmfhagahkkhbeaa.Ex
end

section

set_option linter.unusedSimpArgs false
set_option linter.unusedVariables false
set_option maxRecDepth 10000
set_option maxHeartbeats 4000000
namespace Go.Proofs.Ytmfhagahkkhbeaa.Ex
open Go
theorem made_len (m : MapD) (c : ChD) : m.osds.length ≤ (chMade m c).osds.length := by
  unfold chMade
  split
  · exact Nat.le_refl _
  split
  · exact Nat.le_refl _
  split
  · exact Nat.le_refl _
  · show _ ≤ ((growO _ _).set _ _).length
    rw [set_len]
    omega
theorem newOs_ex {e : Int} {o : OsdD} {k v : Int} (h : k ≠ 1) : (newOs e o k v).ex = o.ex := by
  unfold newOs
  rw [if_neg h]
  split
  · rfl
  split <;> rfl
theorem made_ex {m : MapD} {c : ChD} {n : Nat} (hm : chMay m c = 0) (hn : c.kind = 1 → c.osd ≠ (n : Int)) : ((chMade m c).osds.getD n osd0).ex = (m.osds.getD n osd0).ex := by
  unfold chMay at hm
  unfold chMade
  by_cases k5 : c.kind = 5
  · rw [if_pos k5]
  by_cases k6 : c.kind = 6
  · rw [if_neg k5, if_pos k6]; rfl
  by_cases k7 : c.kind = 7
  · rw [if_neg k5, if_neg k6, if_pos k7]
  rw [if_neg k5, if_neg k6, if_neg k7] at hm ⊢
  by_cases ki : isOs c.kind
  · rw [if_pos ki] at hm
    by_cases ho : c.osd < 0 ∨ 8 ≤ c.osd
    · rw [if_pos ho] at hm; cases hm
    show (((growO m.osds _).set _ _).getD n osd0).ex = _
    rw [set_get]
    by_cases hk : n = c.osd.toNat
    · rw [if_pos hk, newOs_ex (fun h1 => hn h1 (by omega)), osdG_get (by omega), hk]
    · rw [if_neg hk]
  · rw [if_neg ki] at hm
    cases hm
def NoUp (n : Nat) (l : List ChD) : Prop := ∀ c ∈ l, c.kind = 1 → c.osd ≠ (n : Int)
theorem applyC_keep {n : Nat} : ∀ {l : List ChD} {m : MapD}, (applyC m l).2 = 0 → m.osds.length ≤ (applyC m l).1.osds.length ∧ (NoUp n l → ((applyC m l).1.osds.getD n osd0).ex = (m.osds.getD n osd0).ex)
  | [], m, _ => ⟨Nat.le_refl _, fun _ => rfl⟩
  | c :: r, m, h0 => by
    unfold applyC at h0 ⊢
    by_cases hm : chMay m c = 0
    · rw [if_pos hm] at h0 ⊢
      obtain ⟨a, b⟩ := applyC_keep (n := n) h0
      refine ⟨Nat.le_trans (made_len m c) a, fun hn => ?_⟩
      rw [b fun d hd => hn d (by simp [hd]), made_ex hm (hn c (by simp))]
    · rw [if_neg hm] at h0
      exact absurd h0 hm
theorem applyD_keep {a : MapD} {x : IncD} {n : Nat} (h0 : (applyD a x).2 = 0) : a.osds.length ≤ (applyD a x).1.osds.length ∧ (NoUp n x.changes → ((applyD a x).1.osds.getD n osd0).ex = (a.osds.getD n osd0).ex) := by
  unfold applyD at h0 ⊢
  by_cases he : a.epoch = 9223372036854775807 ∨ ¬ x.epoch = a.epoch + 1
  · rw [if_pos he] at h0; cases h0
  rw [if_neg he] at h0 ⊢
  by_cases ha : (applyC a x.changes).2 = 0
  · rw [if_pos ha]
    exact applyC_keep ha
  · rw [if_neg ha] at h0
    exact absurd h0 ha
theorem dfR_no {a b : MapD} {l : List ChD} (h : (applyD a ⟨b.epoch, l⟩).2 = 0 → (applyD a ⟨b.epoch, l⟩).1 ≠ b) : dfR a b l = ([], 22) := by
  unfold dfR
  rw [if_neg fun hh => h hh.1 hh.2]
theorem NoUp.append {n : Nat} {l m : List ChD} (a : NoUp n l) (b : NoUp n m) : NoUp n (l ++ m) := fun c hc => (List.mem_append.1 hc).elim (a c) (b c)
theorem NoUp.nil {n : Nat} : NoUp n [] := fun c hc => by cases hc
theorem NoUp.one {n : Nat} {c : ChD} (h : c.kind = 1 → c.osd ≠ (n : Int)) : NoUp n [c] := fun d hd => by
  obtain rfl := List.mem_singleton.1 hd
  exact h
theorem NoUp.ifs {n : Nat} {P : Prop} [Decidable P] {l m : List ChD} (a : P → NoUp n l) (b : ¬ P → NoUp n m) : NoUp n (if P then l else m) := by
  split
  · exact a ‹_›
  · exact b ‹_›
theorem NoUp.fm {n : Nat} {α : Type} {f : α → List ChD} {l : List α} (h : ∀ x ∈ l, NoUp n (f x)) : NoUp n (l.flatMap f) := fun c hc => by
  obtain ⟨x, hx, hc⟩ := List.mem_flatMap.1 hc
  exact h x hx c hc
def Bad (a b : MapD) (n : Nat) : Prop := (osdG a n).ex = false ∧ (osdG b n).ex = true ∧ (osdG b n).boot = (osdG a n).boot
theorem osL_noUp {w : OsdD → OsdD → Int} {a b : MapD} {n : Nat} (hb : Bad a b n) : ∀ k, NoUp n (osL w a b k)
  | 0 => .nil
  | k + 1 => by
    unfold osL oneC
    refine (osL_noUp hb k).append (.append (.ifs (fun _ => .one fun h => by cases (show (2 : Int) = 1 from h)) fun _ => .nil) (.append (.ifs (fun hc => .one fun _ hk => ?_) fun _ => .nil) (.append (.ifs (fun _ => .one fun h => by cases (show (3 : Int) = 1 from h)) fun _ => .nil) (.ifs (fun _ => .one fun h => by cases (show (4 : Int) = 1 from h)) fun _ => .nil))))
    have hk : (k : Int) = (n : Int) := hk
    have hk : k = n := by omega
    subst hk
    exact hc.2 hb.2.2
theorem bkN_noUp {a b : MapD} {n : Nat} : ∀ k, NoUp n (bkN a b k)
  | 0 => .nil
  | k + 1 => by
    unfold bkN chK
    exact (bkN_noUp k).append (.fm fun x _ => .ifs (fun _ => .one fun h => by cases (show (6 : Int) = 1 from h)) fun _ => .nil)
theorem rsL_noUp {a b : MapD} {n : Nat} : NoUp n (rsL a b) := by
  unfold rsL bkL chP chG chL
  exact .append (.fm fun x _ => .ifs (fun _ => .nil) fun _ => .one fun h => by cases (show (5 : Int) = 1 from h)) (.append (.append (.fm fun x _ => .ifs (fun _ => .nil) fun _ => .one fun h => by cases (show (6 : Int) = 1 from h)) (bkN_noUp 3)) (.ifs (fun _ => .nil) fun _ => .one fun h => by cases (show (7 : Int) = 1 from h)))
theorem wP_eq {x y : OsdD} (h : ¬ (x.ex = false ∧ y.ex = true ∧ y.boot = x.boot)) : wP x y = wD x y := by
  unfold wP wD
  by_cases h1 : x.ex = false
  · by_cases h2 : y.ex = true
    · have h3 : y.boot ≠ x.boot := fun hh => h ⟨h1, h2, hh⟩
      rw [if_pos ⟨⟨h2, h3⟩, h1⟩, if_pos ⟨h1, h2⟩]
    · rw [if_neg fun hh => h2 hh.1.1, if_neg fun hh => h2 hh.2]
  · rw [if_neg fun hh => h1 hh.2, if_neg fun hh => h1 hh.1]
theorem osL_eq {a b : MapD} : ∀ {k : Nat}, (∀ n, n < k → ¬ Bad a b n) → osL wP a b k = osL wD a b k
  | 0, _ => rfl
  | k + 1, h => by
    unfold osL
    rw [osL_eq (k := k) fun n hn => h n (by omega), wP_eq (h k (by omega))]
theorem diff_eq (a b : MapD) : dfR a b (dfL a b) = dfR a b (dfL10 a b) := by
  by_cases hl : a.osds.length ≤ b.osds.length
  · by_cases hb : ∃ n, n < b.osds.length ∧ Bad a b n
    · obtain ⟨n, hn, hb⟩ := hb
      have key : ∀ l, NoUp n l → (applyD a ⟨b.epoch, l⟩).2 = 0 → (applyD a ⟨b.epoch, l⟩).1 ≠ b := fun l hu h0 he => by
        have := (applyD_keep (n := n) h0).2 hu
        have h1 := hb.1
        have h2 := hb.2.1
        rw [osdG_get (by omega), show ((n : Nat) : Int).toNat = n from rfl] at h1 h2
        rw [he, h1, h2] at this
        cases this
      exact (dfR_no (key _ ((osL_noUp hb _).append rsL_noUp))).trans (dfR_no (key _ ((osL_noUp hb _).append rsL_noUp))).symm
    · unfold dfL dfL10
      rw [Nat.max_eq_right hl, osL_eq fun n hn hh => hb ⟨n, hn, hh⟩]
  · have key : ∀ l, (applyD a ⟨b.epoch, l⟩).2 = 0 → (applyD a ⟨b.epoch, l⟩).1 ≠ b := fun l h0 he => by
      have := (applyD_keep (n := 0) h0).1
      rw [he] at this
      omega
    exact (dfR_no (key _)).trans (dfR_no (key _)).symm
/-- What buckets the changes of a list bear. -/
def AllB (P : BktD → Prop) (l : List ChD) : Prop := ∀ c ∈ l, P c.bucket
theorem AllB.append {P : BktD → Prop} {l m : List ChD} (a : AllB P l) (b : AllB P m) : AllB P (l ++ m) := fun c hc => (List.mem_append.1 hc).elim (a c) (b c)
theorem AllB.ifs {P : BktD → Prop} {Q : Prop} [Decidable Q] {l m : List ChD} (a : AllB P l) (b : AllB P m) : AllB P (if Q then l else m) := by split <;> assumption
theorem AllB.nil {P : BktD → Prop} : AllB P [] := fun c hc => by cases hc
theorem AllB.one {P : BktD → Prop} {c : ChD} (h : P c.bucket) : AllB P [c] := fun d hd => by
  obtain rfl := List.mem_singleton.1 hd
  exact h
theorem AllB.fm {P : BktD → Prop} {α : Type} {f : α → List ChD} {l : List α} (h : ∀ x ∈ l, AllB P (f x)) : AllB P (l.flatMap f) := fun c hc => by
  obtain ⟨x, hx, hc⟩ := List.mem_flatMap.1 hc
  exact h x hx c hc
theorem osL_all {P : BktD → Prop} (h0 : P bkt0) (w : OsdD → OsdD → Int) (a b : MapD) : ∀ n, AllB P (osL w a b n)
  | 0 => .nil
  | n + 1 => by
    unfold osL oneC
    exact (osL_all h0 w a b n).append (.append (.ifs (.one h0) .nil) (.append (.ifs (.one h0) .nil) (.append (.ifs (.one h0) .nil) (.ifs (.one h0) .nil))))
theorem bkN_all {P : BktD → Prop} {a b : MapD} (hb : ∀ x ∈ b.buckets, P x) : ∀ n, AllB P (bkN a b n)
  | 0 => .nil
  | n + 1 => by
    unfold bkN chK
    exact (bkN_all hb n).append (.fm fun x hx => .ifs (.one (hb x hx)) .nil)
theorem rsL_all {P : BktD → Prop} {a b : MapD} (h0 : P bkt0) (h1 : ∀ i, P ⟨i, 0, [], []⟩) (hb : ∀ x ∈ b.buckets, P x) : AllB P (rsL a b) := by
  unfold rsL bkL chP chG chL
  exact .append (.fm fun x _ => .ifs .nil (.one h0)) (.append (.append (.fm fun x _ => .ifs .nil (.one (h1 _))) (bkN_all hb 3)) (.ifs .nil (.one h0)))
theorem dfL_len' (a b : MapD) : (dfL a b).length ≤ 4 * max a.osds.length b.osds.length + (b.pools.length + a.buckets.length + 3 * b.buckets.length + 1) := by
  have h1 := osL_len wP a b (max a.osds.length b.osds.length)
  have h2 := rsL_len a b
  unfold dfL
  rw [List.length_append]
  omega
theorem dfL10_len' (a b : MapD) : (dfL10 a b).length ≤ 4 * max a.osds.length b.osds.length + (b.pools.length + a.buckets.length + 3 * b.buckets.length + 1) := by
  have h1 := osL_len wD a b b.osds.length
  have h2 := rsL_len a b
  have h3 := Nat.le_max_right a.osds.length b.osds.length
  unfold dfL10
  rw [List.length_append]
  omega
end Go.Proofs.Ytmfhagahkkhbeaa.Ex
end

section

set_option linter.unusedSimpArgs false
set_option linter.unusedVariables false
namespace Go.Proofs.Ytmfhagahkkhbeaa.Ex
open Go Go.RowKit Go.ChangeShapes Go.WideShapes Go.ChangeAt
section
variable {H : Type} {enc : TypeId × Value → H} {W : World}
theorem OpensM.one {P : Program} {t : TypeId} {α : Type} {R : Rep α} {B : α → Prop} {μ : α → Nat} (h : OpensM enc P W t R B μ) : OpensM enc P W t R B (fun _ => 1) := by
  refine ⟨h.1, fun fuel cs x hf hw => ?_⟩
  obtain ⟨a, b, y, c, d, e⟩ := h.2 fuel cs x hf hw
  exact ⟨a, b, y, c, d, bulk_pos _⟩
theorem sum_one {α : Type} : ∀ l : List α, (l.map fun _ => 1).sum = l.length
  | [] => rfl
  | a :: r => by rw [List.map_cons, List.sum_cons, sum_one r, List.length_cons]; omega
def bkM (b : BktD) : Nat := b.items.length + b.weights.length
def mpM (m : MapD) : Nat := m.osds.length + (m.pools.length + (m.buckets.map bkM).sum)
theorem opensM_ints : OpensM enc Try.prog W 48 (RSl RInt) (fun ys => ys.length * 8 ≤ 140737488351232 ∧ ∀ y ∈ ys, True) (fun ys => ys.length) :=
  (opensM_list (R := RInt) (B := fun _ => True) Try.underlying48 (by kernel_rfl) (by kernel_rfl) (by decide) (opensM_int Try.underlying3 (by kernel_rfl))).to (fun _ h => h) fun ys => by rw [sum_one]; omega
theorem opensM_Osds : OpensM enc Try.prog W 22 (RSl ROsd) (fun ys => Sm 40 ys ∧ ∀ y ∈ ys, OkOsd y) (fun ys => ys.length) :=
  (opensM_list Try.underlying22 (by kernel_rfl) (by kernel_rfl) (by decide) (OpensM.one opensA_Osd)).to (fun _ h => h) fun ys => by rw [sum_one]; omega
theorem opensM_Pools : OpensM enc Try.prog W 23 (RSl RPool) (fun ys => Sm 32 ys ∧ ∀ y ∈ ys, OkPool y) (fun ys => ys.length) :=
  (opensM_list Try.underlying23 (by kernel_rfl) (by kernel_rfl) (by decide) (OpensM.one opensA_Pool)).to (fun _ h => h) fun ys => by rw [sum_one]; omega
theorem opensM_Bkt : OpensM enc Try.prog W 50 RBkt OkBkt bkM :=
  opensM_struct (ts := [3, 3, 48, 48]) (fun x : BktD => (x.id, x.kind, x.items, x.weights)) (fun y => ⟨y.1, y.2.1, y.2.2.1, y.2.2.2⟩) (fun y => rfl) Try.underlying50 (by rfl) (by kernel_rfl) (by kernel_rfl) (opensN_cons (opensA_int Try.underlying3 (by kernel_rfl)) (opensN_cons (opensA_int Try.underlying3 (by kernel_rfl)) (opensN_cons opensM_ints (opensN_one opensM_ints)))) (fun y ⟨_, _, ⟨h2, _⟩, ⟨h3, _⟩⟩ => ⟨h2, h3⟩)
    (fun y => by unfold bkM; dsimp only; omega)
theorem opensM_Bkts : OpensM enc Try.prog W 24 (RSl RBkt) (fun ys => Sm 64 ys ∧ ∀ y ∈ ys, OkBkt y) (fun ys => (ys.map bkM).sum) :=
  opensM_list Try.underlying24 (by kernel_rfl) (by kernel_rfl) (by decide) opensM_Bkt
theorem opensM_Mp : OpensM enc Try.prog W 26 RMp OkMp mpM :=
  opensM_struct (ts := [3, 22, 23, 24, 3]) (fun x : MapD => (x.epoch, x.osds, x.pools, x.buckets, x.leaf)) (fun y => ⟨y.1, y.2.1, y.2.2.1, y.2.2.2.1, y.2.2.2.2⟩) (fun y => rfl) Try.underlying26 (by rfl) (by kernel_rfl) (by kernel_rfl) (opensN_cons (opensA_int Try.underlying3 (by kernel_rfl)) (opensN_cons opensM_Osds (opensN_cons opensM_Pools (opensN_cons opensM_Bkts (opensN_one (opensA_int Try.underlying3 (by kernel_rfl)))))))
    (fun y ⟨_, h1, h2, h3, _⟩ => ⟨h1, h2, h3⟩) (fun y => by unfold mpM; dsimp only; omega)
theorem open_aggM {ρ : Nat → Value} {P : Program} {base : Nat} {t : TypeId} {v0 : Value} {d0 : DataW H} {p0 : List MemPlace} {d : TypeDesc} {α : Type} {R : Rep α} {B : α → Prop} {μ : α → Nat} (hO : OpensM enc P W t R B μ) (hu : P.underlying t = some d) (hd : isAggD d = true)
    (k0 : Value.okWide P W .any base t v0) (h0 : DataW.Trod enc P W 0 (fun _ => true) true t v0 d0 p0) (hw : ∀ n ∈ d0.weights P t, n ≤ reachBytes) :
    ∃ (cs : List AV) (y : α), rel ρ (mu0 W) W (.agg cs) v0 ∧ R.is (InH W) (absH W) cs y ∧ B y ∧ μ y ≤ Rows.uptoBulk d0 := by
  obtain ⟨cs, rfl, h1, h2⟩ := okWide_agg hu hd k0
  obtain ⟨fuel, hf⟩ := h0
  obtain ⟨h3, h4, y, h5, h6⟩ := hO.2 fuel cs.toList _ hf (List.all_eq_true.2 fun n hn => (by simpa using hw n hn))
  refine ⟨_, y, ?_, h5, h6⟩
  unfold rel
  exact ⟨cs.toList, by simp, rels_absV h4⟩
end
/-! Weights. -/
section
variable {H : Type} {P : Program} {K : Nat}
/-- Are a type's parts types of the table, and none of more than K bytes? -/
def okBy (P : Program) (K : Nat) : Option TypeDesc → Bool
  | some (.pointer e) => decide (e < P.types.size)
  | some (.slice e) => decide (e < P.types.size) && decide (P.bytesOf e ≤ K)
  | some (.struct fs) => (fs.toList.map (·.type)).all (fun e => decide (e < P.types.size))
  | some (.array _ e) => decide (e < P.types.size)
  | some (.map k e) => decide (e < P.types.size) && (decide (P.bytesOf k ≤ K) && decide (P.bytesOf e ≤ K))
  | _ => true
theorem len_bulk : ∀ l : List (DataW H), l.length ≤ Rows.uptoBulkAll l
  | [] => Nat.zero_le _
  | d :: r => by
    have h1 := len_bulk r
    have h2 := bulk_pos d
    simp only [List.length_cons, Rows.uptoBulkAll]
    omega
theorem entry_pos : ∀ x : Lit × DataW H, 1 ≤ Rows.uptoBulkEntry x := by
  rintro ⟨a, d⟩
  unfold Rows.uptoBulkEntry
  split <;> omega
theorem len_bulkE : ∀ l : List (Lit × DataW H), l.length ≤ Rows.uptoBulkEntries l
  | [] => Nat.zero_le _
  | d :: r => by
    have h1 := len_bulkE r
    have h2 := entry_pos d
    simp only [List.length_cons, Rows.uptoBulkEntries]
    omega
theorem mul_up {n a b c : Nat} (h : n ≤ a * c) (hab : a ≤ b) : n ≤ b * c := Nat.le_trans h (Nat.mul_le_mul_right c hab)
mutual
theorem weights_bulk (hK : ∀ e, e < P.types.size → okBy P K (P.underlying e) = true) : ∀ (d : DataW H) (t : TypeId) (n : Nat), t < P.types.size → n ∈ d.weights P t → n ≤ Rows.uptoBulk d * (2 * K + 1)
  | .lit l, t, n, ht, h => by
    cases l with
    | string bytes =>
      simp only [DataW.weights, List.mem_singleton] at h
      subst h
      simp only [Rows.uptoBulk]
      exact Nat.le_trans (Nat.le_succ _) (Nat.le_mul_of_pos_right _ (by omega))
    | _ => simp [DataW.weights] at h
  | .nil, t, n, ht, h => by simp [DataW.weights] at h
  | .ptr d, t, n, ht, h => by
    have hk := hK t ht
    simp only [DataW.weights] at h
    split at h
    · rename_i e hu
      rw [hu] at hk
      simp only [okBy, decide_eq_true_eq] at hk
      simp only [Rows.uptoBulk]
      exact mul_up (weights_bulk hK d _ n hk h) (Nat.le_succ _)
    · simp at h
  | .slice elems spare, t, n, ht, h => by
    have hk := hK t ht
    simp only [DataW.weights] at h
    split at h
    · rename_i e hu
      rw [hu] at hk
      simp only [okBy, Bool.and_eq_true, decide_eq_true_eq] at hk
      simp only [Rows.uptoBulk]
      rcases List.mem_cons.1 h with rfl | h
      · have h1 := len_bulk elems
        have h2 := len_bulk spare
        exact Nat.mul_le_mul (by omega) (by have := hk.2; omega)
      · rcases List.mem_append.1 h with h | h
        · exact mul_up (weightsAll_bulk hK elems _ n hk.1 h) (by omega)
        · exact mul_up (weightsAll_bulk hK spare _ n hk.1 h) (by omega)
    · simp at h
  | .agg parts, t, n, ht, h => by
    have hk := hK t ht
    simp only [DataW.weights] at h
    simp only [Rows.uptoBulk]
    split at h
    · rename_i fs hu
      rw [hu] at hk
      exact mul_up (weightsEach_bulk hK parts _ n (fun e he => of_decide_eq_true (List.all_eq_true.1 hk e he)) h) (Nat.le_succ _)
    · rename_i e hu
      rw [hu] at hk
      simp only [okBy, decide_eq_true_eq] at hk
      exact mul_up (weightsAll_bulk hK parts _ n hk h) (Nat.le_succ _)
    · simp at h
  | .iface _ _, t, n, ht, h => by simp [DataW.weights] at h
  | .map entries, t, n, ht, h => by
    have hk := hK t ht
    simp only [DataW.weights] at h
    split at h
    · rename_i k e hu
      rw [hu] at hk
      simp only [okBy, Bool.and_eq_true, decide_eq_true_eq] at hk
      simp only [Rows.uptoBulk]
      rcases List.mem_cons.1 h with rfl | h
      · have h1 := len_bulkE entries
        exact Nat.mul_le_mul (by omega) (by have := hk.2.1; have := hk.2.2; omega)
      · exact mul_up (weightsEntries_bulk hK entries _ n hk.1 h) (Nat.le_succ _)
    · simp at h
  | .held _, t, n, ht, h => by simp [DataW.weights] at h
theorem weightsAll_bulk (hK : ∀ e, e < P.types.size → okBy P K (P.underlying e) = true) : ∀ (l : List (DataW H)) (e : TypeId) (n : Nat), e < P.types.size → n ∈ DataW.weightsAll P e l → n ≤ Rows.uptoBulkAll l * (2 * K + 1)
  | [], e, n, _, h => by simp [DataW.weightsAll] at h
  | d :: r, e, n, he, h => by
    simp only [DataW.weightsAll, List.mem_append] at h
    simp only [Rows.uptoBulkAll]
    rcases h with h | h
    · exact mul_up (weights_bulk hK d e n he h) (by omega)
    · exact mul_up (weightsAll_bulk hK r e n he h) (by omega)
theorem weightsEach_bulk (hK : ∀ e, e < P.types.size → okBy P K (P.underlying e) = true) : ∀ (l : List (DataW H)) (ts : List TypeId) (n : Nat), (∀ e ∈ ts, e < P.types.size) → n ∈ DataW.weightsEach P ts l → n ≤ Rows.uptoBulkAll l * (2 * K + 1)
  | [], ts, n, _, h => by cases ts <;> simp [DataW.weightsEach] at h
  | d :: r, [], n, _, h => by simp [DataW.weightsEach] at h
  | d :: r, t :: ts, n, he, h => by
    simp only [DataW.weightsEach, List.mem_append] at h
    simp only [Rows.uptoBulkAll]
    rcases h with h | h
    · exact mul_up (weights_bulk hK d t n (he t (by simp)) h) (by omega)
    · exact mul_up (weightsEach_bulk hK r ts n (fun e hm => he e (by simp [hm])) h) (by omega)
theorem weightsEntries_bulk (hK : ∀ e, e < P.types.size → okBy P K (P.underlying e) = true) : ∀ (l : List (Lit × DataW H)) (e : TypeId) (n : Nat), e < P.types.size → n ∈ DataW.weightsEntries P e l → n ≤ Rows.uptoBulkEntries l * (2 * K + 1)
  | [], e, n, _, h => by simp [DataW.weightsEntries] at h
  | x :: r, e, n, he, h => by
    simp only [DataW.weightsEntries, List.mem_append] at h
    simp only [Rows.uptoBulkEntries]
    rcases h with h | h
    · exact mul_up (weightsEntry_bulk hK x e n he h) (by omega)
    · exact mul_up (weightsEntries_bulk hK r e n he h) (by omega)
theorem weightsEntry_bulk (hK : ∀ e, e < P.types.size → okBy P K (P.underlying e) = true) : ∀ (x : Lit × DataW H) (e : TypeId) (n : Nat), e < P.types.size → n ∈ DataW.weightsEntry P e x → n ≤ Rows.uptoBulkEntry x * (2 * K + 1)
  | (a, d), e, n, he, h => by
    have hd := fun h => weights_bulk hK d e n he h
    cases a with
    | string bytes =>
      simp only [DataW.weightsEntry, List.mem_cons] at h
      simp only [Rows.uptoBulkEntry]
      rcases h with rfl | h
      · exact Nat.le_trans (by omega) (Nat.le_mul_of_pos_right _ (by omega))
      · exact mul_up (hd h) (by omega)
    | _ =>
      simp only [DataW.weightsEntry] at h
      simp only [Rows.uptoBulkEntry]
      exact mul_up (hd h) (Nat.le_succ _)
end
end
set_option maxRecDepth 100000 in
theorem okBy_all : ∀ e, e < Try.prog.types.size → okBy Try.prog 4096 (Try.prog.underlying e) = true := by
  intro e he
  have h : (List.range Try.prog.types.size).all (fun e => okBy Try.prog 4096 (Try.prog.underlying e)) = true := by decide +kernel
  exact List.all_eq_true.1 h e (List.mem_range.2 he)
/-- All weights of what is of bulk at most 1048576. -/
theorem bulk_weights {H : Type} {d : DataW H} {t : TypeId} (ht : t < Try.prog.types.size) (h : Rows.uptoBulk d ≤ 1048576) : ∀ n ∈ d.weights Try.prog t, n ≤ reachBytes := fun n hn =>
  Nat.le_trans (weights_bulk okBy_all d t n ht hn) (Nat.le_trans (Nat.mul_le_mul_right _ h) (by decide))
end Go.Proofs.Ytmfhagahkkhbeaa.Ex
end

section

set_option linter.unusedSimpArgs false
set_option linter.unusedVariables false
set_option maxRecDepth 10000
set_option maxHeartbeats 4000000
namespace Go.Proofs.Ytmfhagahkkhbeaa.Ex
open Go
/-- A map that is not too great. -/
structure SzOk (m : MapD) (k : Nat) : Prop where
  o : m.osds.length ≤ 1048584
  p : m.pools.length ≤ k
  b : m.buckets.length ≤ k
  i : ∀ b ∈ m.buckets, b.items.length ≤ 1048576 ∧ b.weights.length ≤ 1048576
theorem SzOk.made {m : MapD} {c : ChD} {k : Nat} (h : SzOk m k) (hi : c.bucket.items.length ≤ 1048576 ∧ c.bucket.weights.length ≤ 1048576) (hm : chMay m c = 0) : SzOk (chMade m c) (k + 1) := by
  obtain ⟨h1, h2, h3, h4⟩ := h
  unfold chMay at hm
  unfold chMade
  by_cases k5 : c.kind = 5
  · rw [if_pos k5]
    have := insP_len m.pools c.pool
    exact ⟨h1, by show (insP _ _).length ≤ _; omega, by show m.buckets.length ≤ _; omega, h4⟩
  by_cases k6 : c.kind = 6
  · rw [if_neg k5, if_pos k6]
    have := wbL_len m.buckets c.bucket
    exact ⟨h1, by show m.pools.length ≤ _; omega, by show (wbL _ _).length ≤ _; omega, wbL_ok (P := fun b => b.items.length ≤ 1048576 ∧ b.weights.length ≤ 1048576) hi h4⟩
  by_cases k7 : c.kind = 7
  · rw [if_neg k5, if_neg k6, if_pos k7]
    exact ⟨h1, by show m.pools.length ≤ _; omega, by show m.buckets.length ≤ _; omega, h4⟩
  rw [if_neg k5, if_neg k6, if_neg k7] at hm ⊢
  refine ⟨?_, by show m.pools.length ≤ _; omega, by show m.buckets.length ≤ _; omega, h4⟩
  show ((growO _ _).set _ _).length ≤ _
  rw [set_len]
  by_cases ki : isOs c.kind
  · rw [if_pos ki] at hm
    by_cases ho : c.osd < 0 ∨ 8 ≤ c.osd
    · rw [if_pos ho] at hm; cases hm
    · omega
  · rw [if_neg ki] at hm
    cases hm
theorem SzOk.run : ∀ {l : List ChD} {m n : MapD} {k : Nat}, SzOk m k → (∀ c ∈ l, c.bucket.items.length ≤ 1048576 ∧ c.bucket.weights.length ≤ 1048576) → applyC m l = (n, 0) → SzOk n (k + l.length)
  | [], m, n, k, h, _, ha => by
    cases ha
    exact h
  | c :: r, m, n, k, h, hi, ha => by
    unfold applyC at ha
    by_cases hm : chMay m c = 0
    · rw [if_pos hm] at ha
      have := SzOk.run (h.made (hi c (by simp)) hm) (fun d hd => hi d (by simp [hd])) ha
      rw [List.length_cons, show k + (r.length + 1) = k + 1 + r.length by omega]
      exact this
    · rw [if_neg hm] at ha
      exact absurd (Prod.mk.inj ha).2 hm
theorem SzOk.szs {m : MapD} {k : Nat} (h : SzOk m k) (hk : k ≤ 100000000) : MpSz m ∧ OkMp m := by
  obtain ⟨h1, h2, h3, h4⟩ := h
  have q1 : Sm 40 m.osds := Sm_le h1 (by decide)
  have q2 : Sm 32 m.pools := Sm_le h2 (by omega)
  have q3 : Sm 64 m.buckets := Sm_le h3 (by omega)
  have q4 : ∀ b ∈ m.buckets, Sm 8 b.items ∧ Sm 8 b.weights := fun b hb => ⟨Sm_le (h4 b hb).1 (by decide), Sm_le (h4 b hb).2 (by decide)⟩
  exact ⟨⟨q1, Nat.le_trans (Nat.mul_le_mul_right 32 (Nat.succ_le_succ h2)) (by omega), Nat.le_trans (Nat.mul_le_mul_right 64 (Nat.succ_le_succ h3)) (by omega), q4⟩, ⟨q1, fun _ _ => trivial⟩, ⟨q2, fun _ _ => trivial⟩, q3, q4⟩
theorem bk_mem : ∀ {l : List BktD} {b : BktD}, b ∈ l → b.items.length ≤ (l.map bkM).sum ∧ b.weights.length ≤ (l.map bkM).sum
  | x :: r, b, hb => by
    rw [List.map_cons, List.sum_cons]
    rcases List.mem_cons.1 hb with rfl | hb
    · unfold bkM
      exact ⟨by omega, by omega⟩
    · obtain ⟨h1, h2⟩ := bk_mem hb
      exact ⟨by omega, by omega⟩
theorem diffs_len {a b : MapD} (ha : mpM a ≤ 1048576) (hb : mpM b ≤ 1048576) (ka : a.buckets.length ≤ 40) (kb : b.buckets.length ≤ 40) :
    4 * max a.osds.length b.osds.length + (b.pools.length + a.buckets.length + 3 * b.buckets.length + 1) ≤ 6000000 := by
  unfold mpM at ha hb
  have h : max a.osds.length b.osds.length ≤ 1048576 := Nat.max_le.2 ⟨by omega, by omega⟩
  omega
theorem dfL10_max (a b : MapD) : 4 * b.osds.length + (b.pools.length + a.buckets.length + 3 * b.buckets.length + 1) ≤ 4 * max a.osds.length b.osds.length + (b.pools.length + a.buckets.length + 3 * b.buckets.length + 1) :=
  Nat.add_le_add_right (Nat.mul_le_mul_left 4 (Nat.le_max_right _ _)) _
theorem encInc_small {e : Int} {l : List ChD} (hl : l.length ≤ 6000000) (hi : AllB (fun x => x.items.length ≤ 1048576 ∧ x.weights.length ≤ 1048576) l) : (encInc ⟨e, l⟩).length ≤ 140737488355328 := by
  rw [encInc_len]
  have key : ∀ {l : List ChD}, AllB (fun x => x.items.length ≤ 1048576 ∧ x.weights.length ≤ 1048576) l → (l.flatMap encCh).length ≤ l.length * 20000000 := by
    intro l
    induction l with
    | nil => intro _; simp
    | cons x r ih =>
      intro h
      have h1 := ih fun y hy => h y (by simp [hy])
      have h2 := h x (by simp)
      rw [List.flatMap_cons, List.length_append, List.length_cons, Nat.succ_mul, encCh_len]
      omega
  have := key hi
  have h3 := Nat.mul_le_mul_right 20000000 hl
  show 12 + (l.flatMap encCh).length ≤ _
  omega
theorem diffs_m {H : AH} {a b : MapD} {vo vp vb uo up ub : AV} (hm : MpAt (fun k => k < H.n) H a vo vp vb) (hm2 : MpAt (fun k => k < H.n) H b uo up ub) (oka : OkMp a) (okb : OkMp b) (iea : I64 a.epoch) (ila : I64 a.leaf) (ieb : I64 b.epoch) (ilb : I64 b.leaf) (ha : mpM a ≤ 1048576) (hb : mpM b ≤ 1048576) :
    WC Try.prog (tabOf Try.prog NT0) S0 3 [mpV a vo vp vb, mpV b uo up ub] H fun r h' => r = .lit (.bool true) := by
  refine WC_fn Try.func3 rfl rfl ?_
  have o1 := hm.o.one
  have o2 := hm.p.one
  have o3 := hm.b.one
  have p1 := hm2.o.one
  have p2 := hm2.p.one
  have p3 := hm2.b.one
  have s1 := hm.o.isSl
  have s2 := hm.p.isSl
  have s3 := hm.b.isSl
  have t1 := hm2.o.isSl
  have t2 := hm2.p.isSl
  have t3 := hm2.b.isSl
  obtain ⟨h0, hh0⟩ : ∃ h0, h0 = (H.push (mC a vo vp vb)).push (mC b uo up ub) := ⟨_, rfl⟩
  have E0 : Ext H.n H h0 := hh0 ▸ ((Ext.refl _ _).push _ (Nat.le_refl _)).push _ (by rw [n_push]; omega)
  have A0 : h0.at H.n = some (mC a vo vp vb) := hh0 ▸ (at_push_lt _ (by rw [n_push]; omega)).trans (at_push_n _ _)
  have B0 : h0.at (H.n + 1) = some (mC b uo up ub) := hh0 ▸ at_push_n (H.push (mC a vo vp vb)) _
  have n0 : h0.n = H.n + 2 := by rw [hh0, n_push, n_push]
  have ma : MpAt (fun k => k < h0.n) h0 a vo vp vb := ⟨(hm.o.ext E0 (Nat.le_refl _)).lift fun k hk _ => ⟨rfl, by omega⟩, (hm.p.ext E0 (Nat.le_refl _)).lift fun k hk _ => ⟨rfl, by omega⟩, (hm.b.ext E0 (Nat.le_refl _)).lift fun k hk _ => ⟨rfl, by omega⟩⟩
  have mb : MpAt (fun k => k < h0.n) h0 b uo up ub := ⟨(hm2.o.ext E0 (Nat.le_refl _)).lift fun k hk _ => ⟨rfl, by omega⟩, (hm2.p.ext E0 (Nat.le_refl _)).lift fun k hk _ => ⟨rfl, by omega⟩, (hm2.b.ext E0 (Nat.le_refl _)).lift fun k hk _ => ⟨rfl, by omega⟩⟩
  unfold mC at hh0 A0 B0
  have keep : ∀ h, Ext h0.n h0 h → (∀ e off, loadA (tabOf Try.prog NT0) h e H.n off = ldL (tabOf Try.prog NT0) e [.lit (.int .i64 a.epoch), vo, vp, vb, .lit (.int .i64 a.leaf)] off) ∧ (∀ e off, loadA (tabOf Try.prog NT0) h e (H.n + 1) off = ldL (tabOf Try.prog NT0) e [.lit (.int .i64 b.epoch), uo, up, ub, .lit (.int .i64 b.leaf)] off) ∧ H.n < h.n ∧ H.n + 1 < h.n := fun h e =>
    ⟨ld_at ((e.2 _ (at_lt A0)).trans A0), ld_at ((e.2 _ (at_lt B0)).trans B0), by have := e.1; omega, by have := e.1; omega⟩
  obtain ⟨LA0, LB0, lA0, lB0⟩ := keep _ (Ext.refl _ _)
  simp only [core, zrA, zrS, zrM, zrL, zrE, reduceCtorEq, zrD, ziE, ziL, ziN, Try.ntmps3, mpV, o1, o2, o3, p1, p2, p3, n_push, LA0, LB0, lA0, lB0, ← hh0]
  have lb0 : Sm 88 ([] : List ChD) := sm_nil
  refine (wide_x (l := []) ma .nil oka.2.2.1 lb0).mono ?_
  rintro _ h1 ⟨e1, rfl⟩
  by_cases hwa : wideF a [] = true
  · simp only [core, zrA, zrS, zrM, zrL, zrE, reduceCtorEq, zrD, ziE, ziL, ziN, hwa, aundef]
    refine awake10_c ?_
    simp only [core, zrA, zrS, zrM, zrL, zrE, reduceCtorEq, zrD, ziE, ziL, ziN]
    try simp
  have hwa := eq_false_of_ne_true hwa
  obtain ⟨LA1, LB1, lA1, lB1⟩ := keep _ e1
  simp only [core, zrA, zrS, zrM, zrL, zrE, reduceCtorEq, zrD, ziE, ziL, ziN, hwa, LA1, LB1, lA1, lB1, p1, p2, p3]
  refine (wide_x (l := []) (mb.ext e1 (Nat.le_refl _)) .nil okb.2.2.1 lb0).mono ?_
  rintro _ h2 ⟨e2', rfl⟩
  have e2 := e1.trans (e2'.mono e1.1)
  by_cases hwb : wideF b [] = true
  · simp only [core, zrA, zrS, zrM, zrL, zrE, reduceCtorEq, zrD, ziE, ziL, ziN, hwb]
    refine awake10_c ?_
    simp only [core, zrA, zrS, zrM, zrL, zrE, reduceCtorEq, zrD, ziE, ziL, ziN]
    try simp
  have hwb := eq_false_of_ne_true hwb
  have ka : a.buckets.length ≤ 40 := by
    unfold wideF at hwa
    simp only [Bool.or_eq_false_iff, decide_eq_false_iff_not] at hwa
    omega
  have kb : b.buckets.length ≤ 40 := by
    unfold wideF at hwb
    simp only [Bool.or_eq_false_iff, decide_eq_false_iff_not] at hwb
    omega
  have hlen := diffs_len ha hb ka kb
  have hsz1 : (4 * max a.osds.length b.osds.length + (b.pools.length + a.buckets.length + 3 * b.buckets.length + 1)) * 120 ≤ 140737488351232 := Nat.le_trans (Nat.mul_le_mul_right 120 hlen) (by decide)
  have hsz2 : (4 * b.osds.length + (b.pools.length + a.buckets.length + 3 * b.buckets.length + 1)) * 120 ≤ 140737488351232 := Nat.le_trans (Nat.mul_le_mul_right 120 (dfL10_max a b)) hsz1
  have bit : ∀ x ∈ b.buckets, x.items.length ≤ 1048576 ∧ x.weights.length ≤ 1048576 := fun x hx => by
    have := bk_mem hx
    unfold mpM at hb
    exact ⟨by omega, by omega⟩
  have ait : ∀ x ∈ a.buckets, x.items.length ≤ 1048576 ∧ x.weights.length ≤ 1048576 := fun x hx => by
    have := bk_mem hx
    unfold mpM at ha
    exact ⟨by omega, by omega⟩
  have hall : ∀ w k, AllB (fun x => x.items.length ≤ 1048576 ∧ x.weights.length ≤ 1048576) (osL w a b k ++ rsL a b) := fun w k => (osL_all ⟨Nat.zero_le _, Nat.zero_le _⟩ w a b k).append (rsL_all ⟨Nat.zero_le _, Nat.zero_le _⟩ (fun _ => ⟨Nat.zero_le _, Nat.zero_le _⟩) bit)
  have sza : SzOk a 1048576 := by
    unfold mpM at ha
    exact ⟨by omega, by omega, by omega, ait⟩
  have run : ∀ l : List ChD, l.length ≤ 6000000 → AllB (fun x => x.items.length ≤ 1048576 ∧ x.weights.length ≤ 1048576) l → ∀ i n, i ≤ l.length → applyC a (l.take i) = (n, 0) → MpSz n ∧ OkMp n := fun l hl hi i n hil hn => by
    have h1 := SzOk.run sza (fun c hc => hi c (List.mem_of_mem_take hc)) hn
    exact h1.szs (by rw [List.length_take]; omega)
  have len1 := Nat.le_trans (dfL_len' a b) hlen
  have len2 := Nat.le_trans (dfL10_len' a b) hlen
  have run1 := run _ len1 (hall _ _)
  have run2 := run _ len2 (hall _ _)
  obtain ⟨LA2, LB2, lA2, lB2⟩ := keep _ e2
  have f2 := e2.1
  simp only [core, zrA, zrS, zrM, zrL, zrE, reduceCtorEq, zrD, ziE, ziL, ziN, hwb, LA2, LB2, lA2, lB2, o1, o2, o3, p1, p2, p3]
  refine (diff_x (ma.ext e2 (Nat.le_refl _)) (mb.ext e2 (Nat.le_refl _)) (fun k hk => Nat.lt_of_lt_of_le hk f2) oka okb iea ila ieb ilb (by omega) hsz1 run1).mono ?_
  rintro _ h3 ⟨e3', rv, rfl, i3⟩
  have e3 := e2.trans (e3'.mono f2)
  have f3 := e3.1
  obtain ⟨LA3, LB3, lA3, lB3⟩ := keep _ e3
  have r1 := i3.one
  simp only [core, zrA, zrS, zrM, zrL, zrE, reduceCtorEq, zrD, ziE, ziL, ziN, LA3, LB3, lA3, lB3, o1, o2, o3, p1, p2, p3, r1]
  refine (diff10_x (ma.ext e3 (Nat.le_refl _)) (mb.ext e3 (Nat.le_refl _)) (fun k hk => Nat.lt_of_lt_of_le hk f3) oka okb iea ila ieb ilb hsz2 run2).mono ?_
  rintro _ h4 ⟨e4', rw_, rfl, i4⟩
  have e4 := e3.trans (e4'.mono f3)
  have f4 := e4.1
  rw [← diff_eq] at i4 ⊢
  obtain ⟨L, hL⟩ : ∃ L, L = (dfR a b (dfL a b)).1 := ⟨_, rfl⟩
  obtain ⟨er, her⟩ : ∃ er, er = (dfR a b (dfL a b)).2 := ⟨_, rfl⟩
  rw [← hL] at i3 i4
  rw [← her]
  have w1 := i4.one
  have hLp : L = dfL a b ∨ L = [] := by
    rw [hL]
    unfold dfR
    split
    · exact .inl rfl
    · exact .inr rfl
  have hLn : L.length ≤ 6000000 := by
    rcases hLp with h | h <;> rw [h]
    · exact len1
    · simp
  have hLi : AllB (fun x => x.items.length ≤ 1048576 ∧ x.weights.length ≤ 1048576) L := by
    rcases hLp with h | h <;> rw [h]
    · exact hall _ _
    · exact .nil
  have hLs : ∀ c ∈ L, Sm 8 c.bucket.items ∧ Sm 8 c.bucket.weights := fun c hc => ⟨Sm_le (hLi c hc).1 (by decide), Sm_le (hLi c hc).2 (by decide)⟩
  have hL88 : Sm 88 L := Sm_le hLn (by decide)
  simp only [core, zrA, zrS, zrM, zrL, zrE, reduceCtorEq, zrD, ziE, ziL, ziN, r1, w1]
  rw [WB_regionD [0, 2, 1, 3, 4, 5, 6, 9, 10, 7, 8, 11, 12, 13, 14] 26958712494399169150782935633110866050345902206182703160498348654592 (by kernel_rfl)]
  have hee : (er != er) = false := by simp
  repeat ((with_reducible refine WDM_cons ?_; simp only [dw1]; try simp only [dw2, zrA, zrM, zrR, zrO, zrE]); simp only [core, zrA, zrS, zrM, zrL, zrE, reduceCtorEq, zrD, ziE, ziL, ziN, cored, r1, w1, hee])
  refine (num_x _).mono ?_
  rintro _ h5 ⟨q5, rfl⟩
  replace q5 := q5.symm
  subst q5
  have i3' : IsSl RCh (fun k => k < h4.n) h4 rv L := (i3.ext e4' (Nat.le_refl _)).lift fun k _ hk => ⟨rfl, hk⟩
  have hle := encInc_small (e := 0) hLn hLi
  have hne : encInc ⟨0, L⟩ ≠ [] := fun hh => by
    have := encInc_len ⟨0, L⟩
    rw [hh] at this
    simp at this
    omega
  repeat ((with_reducible refine WDM_cons ?_; simp only [dw1]; try simp only [dw2, zrA, zrM, zrR, zrO, zrE]); simp only [core, zrA, zrS, zrM, zrL, zrE, reduceCtorEq, zrD, ziE, ziL, ziN, cored, r1, w1, hee])
  refine (inc2_x ⟨0, L⟩ i3' (fun k hk => hk) hL88 hLs hle).mono ?_
  rintro _ h5 ⟨e5', ob⟩
  obtain ⟨p5, rfl, hp5, hat5, hby5⟩ := OwnL.bytes ob hne
  have e5 := e4.trans (e5'.mono f4)
  repeat ((with_reducible refine WDM_cons ?_; simp only [dw1]; try simp only [dw2, zrA, zrM, zrR, zrO, zrE]); simp only [core, zrA, zrS, zrM, zrL, zrE, reduceCtorEq, zrD, ziE, ziL, ziN, cored, r1, w1, hee, a_conM, conM_sl, hby5])
  refine (inc2_x ⟨0, L⟩ (i4.ext e5' (Nat.le_refl _)) (fun k hk => Nat.lt_of_lt_of_le hk e5'.1) hL88 hLs hle).mono ?_
  rintro _ h6 ⟨e6', ob6⟩
  obtain ⟨p6, rfl, hp6, hat6, hby6⟩ := OwnL.bytes ob6 hne
  have e6 := e5.trans (e6'.mono e5.1)
  have hby56 := hby5
  unfold bytesAt getR at hby56
  rw [← e6'.2 _ (at_lt hat5)] at hby56
  replace hby56 : bytesAt h6 p5 0 (encInc ⟨0, L⟩).length = some (encInc ⟨0, L⟩) := hby56
  have hck : (match Option.map (fun bs => AV.lit (Value.string { data := bs.toArray })) (bytesAt h6 p5 0 (encInc ⟨0, L⟩).length) with | some u => AV.same 8 u (AV.lit (Value.string { data := (encInc ⟨0, L⟩).toArray })) | none => false) = true := by
    rw [hby56]
    exact same_str
  have hse : ∀ (P : Program) (t : TypeId), pur P (binOp .neq t (Value.string ⟨(encInc ⟨0, L⟩).toArray⟩) (Value.string ⟨(encInc ⟨0, L⟩).toArray⟩)) = some (.ok (Value.bool false)) := fun P t => by
    show pur P (pure (Value.bool !((⟨(encInc ⟨0, L⟩).toArray⟩ : ByteArray).toList == (⟨(encInc ⟨0, L⟩).toArray⟩ : ByteArray).toList))) = _
    rw [beq_self_eq_true]
    rfl
  by_cases hz : er = 0
  · have hz2 : (er != 0) = false := by rw [hz]; rfl
    have hR : (applyD a ⟨b.epoch, dfL a b⟩).2 = 0 ∧ (applyD a ⟨b.epoch, dfL a b⟩).1 = b := Decidable.byContradiction fun hh => by
      unfold dfR at her
      rw [if_neg hh] at her
      rw [her] at hz
      cases hz
    have hLL : L = dfL a b := by
      rw [hL]
      unfold dfR
      rw [if_pos hR]
    obtain ⟨LA6, LB6, lA6, lB6⟩ := keep _ e6
    repeat (first | ((with_reducible refine WDM_cons ?_; simp only [dw1]; try simp only [dw2, zrA, zrM, zrR, zrO, zrE]); simp only [core, zrA, zrS, zrM, zrL, zrE, reduceCtorEq, zrD, ziE, ziL, ziN, cored, hse, hz2, a_conM, conM_sl, hby6, LA6, LB6, lA6, lB6, o1, o2, o3, r1]) | simp only [core, zrA, zrS, zrM, zrL, zrE, reduceCtorEq, zrD, ziE, ziL, ziN, cored, hse, hz2, a_conM, conM_sl, hby6, LA6, LB6, lA6, lB6, o1, o2, o3, r1])
    refine ⟨hck, ?_⟩
    have e46 := e5'.trans (e6'.mono e5'.1)
    have m6 := ma.ext e6 (Nat.le_refl _)
    have mT : MpAt (fun _ => True) h6 a vo vp vb := ⟨m6.o.lift fun _ _ _ => ⟨rfl, trivial⟩, m6.p.lift fun _ _ _ => ⟨rfl, trivial⟩, m6.b.lift fun _ _ _ => ⟨rfl, trivial⟩⟩
    have cT : IsSl RCh (fun _ => True) h6 rv L := (i3'.ext e46 (Nat.le_refl _)).lift fun _ _ _ => ⟨rfl, trivial⟩
    refine (Apply_x ⟨b.epoch, L⟩ mT oka (by omega) iea cT hL88 hLs (fun i n hi hh => by
      have hh : applyC a (L.take i) = (n, 0) := hh
      have hi : i ≤ L.length := hi
      rw [hLL] at hh hi
      exact (run1 i n hi hh).1)).mono ?_
    rintro _ h7 ⟨e7', ro, rp, rb, rfl, m7⟩
    rw [hLL, hR.1, hR.2]
    rw [hLL, hR.2] at m7
    have q1 := m7.o.one
    have q2 := m7.p.one
    have q3 := m7.b.one
    have e7 := e6.trans (e7'.mono e6.1)
    obtain ⟨hD, hhD⟩ : ∃ hD, hD = h7.push (.cells [.lit (.int .i64 b.epoch), ro, rp, rb, .lit (.int .i64 b.leaf)] 26) := ⟨_, rfl⟩
    have eD7 : Ext h7.n h7 hD := hhD ▸ (Ext.refl _ _).push _ (Nat.le_refl _)
    have DD : hD.at h7.n = some (.cells [.lit (.int .i64 b.epoch), ro, rp, rb, .lit (.int .i64 b.leaf)] 26) := hhD ▸ at_push_n _ _
    have LDD := ld_at (T := tabOf Try.prog NT0) DD
    have lDD := at_lt DD
    have eD := e7.trans (eD7.mono e7.1)
    obtain ⟨LA9, LB9, lA9, lB9⟩ := keep _ eD
    unfold mpV
    simp only [core, zrA, zrS, zrM, zrL, zrE, reduceCtorEq, zrD, ziE, ziL, ziN, q1, q2, q3, ← hhD]
    refine (num_x _).mono ?_
    rintro _ h9 ⟨q9, rfl⟩
    replace q9 := q9.symm
    subst q9
    have h00 : ((0 : Int) == 0) = true := rfl
    simp only [core, zrA, zrS, zrM, zrL, zrE, reduceCtorEq, zrD, ziE, ziL, ziN, h00, LDD, lDD, LB9, lB9, q1, q2, q3, p1, p2, p3]
    refine (sameM_x (m7.ext eD7 (Nat.le_refl _)) (mb.ext eD (Nat.le_refl _)) okb).mono ?_
    rintro _ h10 ⟨e10, rfl⟩
    have hsd : sameD b b = true := decide_eq_true rfl
    simp only [core, zrA, zrS, zrM, zrL, zrE, reduceCtorEq, zrD, ziE, ziL, ziN, hsd]
    refine awake10_c ?_
    simp only [core, zrA, zrS, zrM, zrL, zrE, reduceCtorEq, zrD, ziE, ziL, ziN]
    try simp
  · have hz2 : (er != 0) = true := bne_iff_ne.2 hz
    repeat (first | ((with_reducible refine WDM_cons ?_; simp only [dw1]; try simp only [dw2, zrA, zrM, zrR, zrO, zrE]); simp only [core, zrA, zrS, zrM, zrL, zrE, reduceCtorEq, zrD, ziE, ziL, ziN, cored, hse, hz2, a_conM, conM_sl, hby6]) | simp only [core, zrA, zrS, zrM, zrL, zrE, reduceCtorEq, zrD, ziE, ziL, ziN, cored, hse, hz2, a_conM, conM_sl, hby6])
    refine ⟨hck, ?_⟩
    refine awake10_c ?_
    simp only [core, zrA, zrS, zrM, zrL, zrE, reduceCtorEq, zrD, ziE, ziL, ziN]
    try simp
end Go.Proofs.Ytmfhagahkkhbeaa.Ex
namespace Go.Proofs.Ytmfhagahkkhbeaa
open Go.RowKit Go.ChangeShapes Go.WideShapes Go.ChangeAt
set_option maxRecDepth 100000 in
theorem osdmapDiffs_walk {H : Type} {enc : TypeId × Value → H} {W : World} {base : Nat} {v0 : Value} {d0 : DataW H} {p0 : List MemPlace} {v1 : Value} {d1 : DataW H} {p1 : List MemPlace}
    (k0 : Value.okWide Try.prog W .any base 26 v0) (h0 : DataW.Trod enc Try.prog W 0 (fun _ => true) true 26 v0 d0 p0)
    (k1 : Value.okWide Try.prog W .any base 26 v1) (h1 : DataW.Trod enc Try.prog W 0 (fun _ => true) true 26 v1 d1 p1)
    (hb : Rows.uptoBulkAll [d0, d1] ≤ 1048576) :
    Calls Try.prog 3 #[v0, v1] W fun e w' => e = .returned (.bool true) ∧ Below W.heap.size W w' := by
  simp only [Rows.uptoBulkAll] at hb
  obtain ⟨c0, a, r0, i0, ok0, m0⟩ := Ex.open_aggM Ex.opensM_Mp Try.underlying26 rfl k0 h0 (Ex.bulk_weights (by decide) (by omega))
  obtain ⟨c1, b, r1, i1, ok1, m1⟩ := Ex.open_aggM Ex.opensM_Mp Try.underlying26 rfl k1 h1 (Ex.bulk_weights (by decide) (by omega))
  obtain ⟨ao, ap, ab, rfl, a1, a2, a3, ia, la⟩ := Ex.RMp_is.1 i0
  obtain ⟨bo, bp, bb, rfl, b1, b2, b3, ib, lb⟩ := Ex.RMp_is.1 i1
  exact Ex.law_join (Ex.rels_cons r0 (Ex.rels_cons r1 Ex.rels_nil)) (Ex.diffs_m ⟨a1, a2, a3⟩ ⟨b1, b2, b3⟩ ok0 ok1 ia la ib lb (by omega) (by omega))
end Go.Proofs.Ytmfhagahkkhbeaa
end
