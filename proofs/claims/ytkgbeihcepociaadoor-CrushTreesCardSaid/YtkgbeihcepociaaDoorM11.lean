/- Part 11 of the proof: Aw8, Txt, Trr, Trs, CrushTreesWalk. -/
import Derived.Test.YtkgbeihcepociaaDoorM10
section

set_option linter.unusedSimpArgs false
set_option linter.unusedVariables false
set_option maxRecDepth 10000
set_option maxHeartbeats 4000000
namespace Go.Proofs.YtkgbeihcepociaaDoor.Ex
open Go
def osdE : OsdD := ⟨true, true, 65536, 0, 0, 0⟩
def exD : MapD := ⟨0, [osdE, osdE, osdE, osdE], [], [⟨-1, 3, [-2, -3], [131072, 131072]⟩, ⟨-2, 1, [0, 1], [65536, 65536]⟩, ⟨-3, 1, [2, 3], [65536, 65536]⟩], 1⟩
theorem example_x {H : AH} : WC Tryd.prog (tabOf Tryd.prog NT0) S0 19 [] H fun r h' => Ext H.n H h' ∧ ∃ vo vp vb, r = mpV exD vo vp vb ∧ MpAt (fun b => H.n ≤ b) h' exD vo vp vb := by
  refine WC_fn Tryd.func19 rfl rfl ?_
  simp only [core, Nat.reduceAdd, Nat.reduceSub, Nat.reduceMul, Nat.reduceLT, Nat.reduceEqDiff, reduceCtorEq, Nat.reduceLeDiff, Int.reduceLE, Int.reduceLT, Int.reduceToNat, Tryd.ntmps19]
  refine WB_for 4 (fun i t h => (Ext H.n H h ∧ H.n + 9 ≤ h.n ∧ IsSl RBkt (fun b => H.n + 1 ≤ b ∧ b < H.n + 8) h (.sl (H.n + 7) 0 3 (.kn 3)) exD.buckets ∧ (h.at H.n = some (.cells [.lit (.int .i64 0), .lit (.slice none 0 0), .lit (.slice none 0 0), .lit (.slice none 0 0), .lit (.int .i64 0)] 26)) ∧ ∃ s', h.at (H.n + 8) = some (.cells [.lit (.int .i64 0), s', .lit (.slice none 0 0), .sl (H.n + 7) 0 3 (.kn 3), .lit (.int .i64 1)] 26) ∧ OwnL ROsd (fun _ => False) (H.n + 9) h s' 42 (List.replicate i osdE)) ∧ t.n = 23 ∧ t.get 0 = .ptr H.n 0 ∧ t.get 1 = .ptr (H.n + 8) 0 ∧ t.get 13 = .lit (.int .i64 i)) ?_ ?_ _ _ ?_
  · rintro i t h hlt hc ⟨⟨he, hn, hb, R, s', B, ho⟩, hn, g0, g1, g13⟩ ih
    have LB := ld_at (T := tabOf Tryd.prog NT0) B
    have lb := at_lt B
    have hws := wrap_succ hlt (by omega)
    have v1 := (ho.toSl (F := fun _ => True) (fun _ h => h.elim) (fun _ _ => trivial)).isSl
    have v2 := (ho.toSl (F := fun _ => True) (fun _ h => h.elim) (fun _ _ => trivial)).one
    have hc : ((i : Int) < 4) = True := by simp only [eq_iff_iff, iff_true]; omega
    simp only [core, Nat.reduceAdd, Nat.reduceSub, Nat.reduceMul, Nat.reduceLT, Nat.reduceEqDiff, reduceCtorEq, Nat.reduceLeDiff, Int.reduceLE, Int.reduceLT, Int.reduceToNat, hn, g0, g1, g13, hc, LB, lb, v1, v2]
    obtain ⟨h2, hh2⟩ : ∃ h2, h2 = h.push (.cells [.lit (.bool true), .lit (.bool true), .lit (.int .i64 65536), .lit (.int .i64 0), .lit (.int .i64 0), .lit (.int .i64 0)] 42) := ⟨_, rfl⟩
    have e2 : Ext h.n h h2 := hh2 ▸ (Ext.refl _ _).push _ (Nat.le_refl _)
    have A2 : h2.at h.n = some (.cells [.lit (.bool true), .lit (.bool true), .lit (.int .i64 65536), .lit (.int .i64 0), .lit (.int .i64 0), .lit (.int .i64 0)] 42) := hh2 ▸ at_push_n _ _
    rw [← hh2]
    clear hh2
    have hn2 := e2.1
    have i64 : ∀ n : Int, -65536 ≤ n → n ≤ 65536 → I64 n := fun n a b => ⟨by omega, by omega⟩
    refine WOp_app ((ho.ext e2 (Nat.le_refl _)).snoc (by kernel_rfl) (by kernel_rfl) (by kernel_rfl) (zv := .agg [.lit (.bool false), .lit (.bool false), .lit (.int .i64 0), .lit (.int .i64 0), .lit (.int .i64 0), .lit (.int .i64 0)]) (by kernel_rfl) (by' := 40) (by kernel_rfl) rfl (by decide) (by decide) A2 (y := osdE) (ROsd_is.2 ⟨rfl, i64 _ (by decide) (by decide), i64 _ (by decide) (by decide), i64 _ (by decide) (by decide), i64 _ (by decide) (by decide)⟩) (by rw [List.length_replicate]; omega) (by rw [List.length_replicate]; omega) (by omega)) ?_
    rintro s4 h4 ⟨ho4, e4, k4⟩
    have B4 := (e4.2 _ (by omega)).trans ((e2.2 _ lb).trans B)
    have lb4 := at_lt B4
    have v4 := (ho4.toSl (F := fun _ => True) (fun _ h => h.elim) (fun _ _ => trivial)).one
    have hn4 := e4.1
    simp only [core, Nat.reduceAdd, Nat.reduceSub, Nat.reduceMul, Nat.reduceLT, Nat.reduceEqDiff, reduceCtorEq, Nat.reduceLeDiff, Int.reduceLE, Int.reduceLT, Int.reduceToNat, hn, g0, g1, g13, B4, lb4, v4, hws]
    have keep : ∀ b, b < H.n + 8 → (h4.put (H.n + 8) (.cells [.lit (.int .i64 0), s4, .lit (.slice none 0 0), .sl (H.n + 7) 0 3 (.kn 3), .lit (.int .i64 1)] 26)).at b = h.at b := fun b hb => (at_put_ne _ (by omega)).trans ((e4.2 b (by omega)).trans (e2.2 b (by omega)))
    refine ih _ _ ⟨⟨⟨by rw [n_put]; omega, fun b hb => (keep b (by omega)).trans (he.2 b hb)⟩, by rw [n_put]; omega, hb.lift fun b hb _ => ⟨keep b hb.2, hb⟩, (keep _ (by omega)).trans R, s4, at_put_same _ lb4, ?_⟩, ?_⟩
    · rw [show List.replicate (i + 1) osdE = List.replicate i osdE ++ [osdE] from List.replicate_succ']
      exact ho4.lift (fun b off n cap hv => at_put_ne _ (fun hh => ho4.aparts (show H.n + 8 < H.n + 9 by omega) off n cap (by rw [hh]; exact hv))) (fun b hb => hb.elim)
    · simp only [core, Nat.reduceAdd, Nat.reduceSub, Nat.reduceMul, Nat.reduceLT, Nat.reduceEqDiff, reduceCtorEq, Nat.reduceLeDiff, Int.reduceLE, Int.reduceLT, Int.reduceToNat, hn, g0, g1, g13]
  · rintro t h hc ⟨⟨he, hn, hb, R, s', B, ho⟩, hn, g0, g1, g13⟩
    have LB := ld_at (T := tabOf Tryd.prog NT0) B
    have lb := at_lt B
    have lr := at_lt R
    have v2 := (ho.toSl (F := fun _ => True) (fun _ h => h.elim) (fun _ _ => trivial)).one
    have hc : ((4 : Int) < 4) = False := by decide
    have hc' : (((4 : Nat) : Int) < 4) = False := by decide
    simp only [core, Nat.reduceAdd, Nat.reduceSub, Nat.reduceMul, Nat.reduceLT, Nat.reduceEqDiff, reduceCtorEq, Nat.reduceLeDiff, Int.reduceLE, Int.reduceLT, Int.reduceToNat, hn, g0, g1, g13, hc, hc', LB, lb, v2, R, lr]
    refine ⟨he.put _ (Nat.le_refl _), s', .lit (.slice none 0 0), .sl (H.n + 7) 0 3 (.kn 3), rfl, ?_, IsSl.nil, ?_⟩
    · exact (ho.toSl (F := fun b => H.n + 9 ≤ b) (fun _ h => h.elim) (fun b hb => hb)).lift fun b hb _ => ⟨at_put_ne _ (by omega), by omega⟩
    · exact hb.lift fun b hb hlt => ⟨at_put_ne _ (by omega), by omega⟩
  · have i64 : ∀ n : Int, -200000 ≤ n → n ≤ 200000 → I64 n := fun n a b => ⟨by omega, by omega⟩
    obtain ⟨bs, hbs⟩ : ∃ bs : List AB, bs = [.cells [.lit (.int .i64 0), .lit (.slice none 0 0), .lit (.slice none 0 0), .lit (.slice none 0 0), .lit (.int .i64 0)] 26, .cells [.lit (.int .i64 (-2)), .lit (.int .i64 (-3))] 3, .cells [.lit (.int .i64 131072), .lit (.int .i64 131072)] 3, .cells [.lit (.int .i64 0), .lit (.int .i64 1)] 3, .cells [.lit (.int .i64 65536), .lit (.int .i64 65536)] 3, .cells [.lit (.int .i64 2), .lit (.int .i64 3)] 3, .cells [.lit (.int .i64 65536), .lit (.int .i64 65536)] 3,
      .cells [.lit (.int .i64 (-1)), .lit (.int .i64 3), .sl (H.n + 1) 0 2 (.kn 2), .sl (H.n + 2) 0 2 (.kn 2), .lit (.int .i64 (-2)), .lit (.int .i64 1), .sl (H.n + 3) 0 2 (.kn 2), .sl (H.n + 4) 0 2 (.kn 2), .lit (.int .i64 (-3)), .lit (.int .i64 1), .sl (H.n + 5) 0 2 (.kn 2), .sl (H.n + 6) 0 2 (.kn 2)] 47,
      .cells [.lit (.int .i64 0), .lit (.slice none 0 0), .lit (.slice none 0 0), .sl (H.n + 7) 0 3 (.kn 3), .lit (.int .i64 1)] 26] := ⟨_, rfl⟩
    have hh : Ext H.n H (pushL H bs) ∧ H.n + 9 ≤ (pushL H bs).n ∧ IsSl RBkt (fun b => H.n + 1 ≤ b ∧ b < H.n + 8) (pushL H bs) (.sl (H.n + 7) 0 3 (.kn 3)) exD.buckets ∧ ((pushL H bs).at H.n = some (.cells [.lit (.int .i64 0), .lit (.slice none 0 0), .lit (.slice none 0 0), .lit (.slice none 0 0), .lit (.int .i64 0)] 26)) ∧ ∃ s', (pushL H bs).at (H.n + 8) = some (.cells [.lit (.int .i64 0), s', .lit (.slice none 0 0), .sl (H.n + 7) 0 3 (.kn 3), .lit (.int .i64 1)] 26) ∧ OwnL ROsd (fun _ => False) (H.n + 9) (pushL H bs) s' 42 (List.replicate 0 osdE) := by
      have at' : ∀ i x, bs[i]? = some x → (pushL H bs).at (H.n + i) = some x := fun i x e => pushL_at e
      have A0 := at' 0 _ (by rw [hbs]; rfl)
      have A1 := at' 1 _ (by rw [hbs]; rfl)
      have A2 := at' 2 _ (by rw [hbs]; rfl)
      have A3 := at' 3 _ (by rw [hbs]; rfl)
      have A4 := at' 4 _ (by rw [hbs]; rfl)
      have A5 := at' 5 _ (by rw [hbs]; rfl)
      have A6 := at' 6 _ (by rw [hbs]; rfl)
      have A7 := at' 7 _ (by rw [hbs]; rfl)
      have A8 := at' 8 _ (by rw [hbs]; rfl)
      have l8 := at_lt A8
      refine ⟨pushL_ext (Nat.le_refl _), by omega, ?_, A0, .lit (.slice none 0 0), A8, OwnL.nil⟩
      generalize pushL H bs = h' at A0 A1 A2 A3 A4 A5 A6 A7 A8
      have two : ∀ (k : Nat) (a b : Int), 1 ≤ k ∧ k < 8 → -200000 ≤ a → a ≤ 200000 → -200000 ≤ b → b ≤ 200000 → h'.at (H.n + k) = some (.cells [.lit (.int .i64 a), .lit (.int .i64 b)] 3) → IsSl RInt (fun b => H.n + 1 ≤ b ∧ b < H.n + 8) h' (.sl (H.n + k) 0 2 (.kn 2)) [a, b] := fun k a b hk a1 a2 b1 b2 A => IsSl.ofAt (L := [[.lit (.int .i64 a)], [.lit (.int .i64 b)]]) A ⟨by omega, by omega⟩ ((Els.nil.snoc (RInt_is.2 ⟨rfl, i64 _ a1 a2⟩)).snoc (RInt_is.2 ⟨rfl, i64 _ b1 b2⟩)) rfl
      have S1 := two 1 _ _ (by decide) (by decide) (by decide) (by decide) (by decide) A1
      have S2 := two 2 _ _ (by decide) (by decide) (by decide) (by decide) (by decide) A2
      have S3 := two 3 _ _ (by decide) (by decide) (by decide) (by decide) (by decide) A3
      have S4 := two 4 _ _ (by decide) (by decide) (by decide) (by decide) (by decide) A4
      have S5 := two 5 _ _ (by decide) (by decide) (by decide) (by decide) (by decide) A5
      have S6 := two 6 _ _ (by decide) (by decide) (by decide) (by decide) (by decide) A6
      exact IsSl.ofAt (L := [[.lit (.int .i64 (-1)), .lit (.int .i64 3), .sl (H.n + 1) 0 2 (.kn 2), .sl (H.n + 2) 0 2 (.kn 2)], [.lit (.int .i64 (-2)), .lit (.int .i64 1), .sl (H.n + 3) 0 2 (.kn 2), .sl (H.n + 4) 0 2 (.kn 2)], [.lit (.int .i64 (-3)), .lit (.int .i64 1), .sl (H.n + 5) 0 2 (.kn 2), .sl (H.n + 6) 0 2 (.kn 2)]]) A7 ⟨by omega, by omega⟩ (((Els.nil.snoc (RBkt_is.2 ⟨_, _, rfl, S1, S2, i64 _ (by decide) (by decide), i64 _ (by decide) (by decide)⟩)).snoc (RBkt_is.2 ⟨_, _, rfl, S3, S4, i64 _ (by decide) (by decide), i64 _ (by decide) (by decide)⟩)).snoc (RBkt_is.2 ⟨_, _, rfl, S5, S6, i64 _ (by decide) (by decide), i64 _ (by decide) (by decide)⟩)) rfl
    rw [hbs] at hh
    refine ⟨hh, ?_⟩
    simp only [core, Nat.reduceAdd, Nat.reduceSub, Nat.reduceMul, Nat.reduceLT, Nat.reduceEqDiff, reduceCtorEq, Nat.reduceLeDiff, Int.reduceLE, Int.reduceLT, Int.reduceToNat]
    (repeat' apply And.intro) <;> first | rfl | trivial
theorem exm_ok : OkM exD := by
  refine ⟨?_, ?_, trivial⟩
  · show 3 * 64 ≤ _; decide
  · intro b hb
    simp only [exD, List.mem_cons, List.not_mem_nil, or_false] at hb
    rcases hb with rfl | rfl | rfl <;> exact ⟨(by show 2 * 8 ≤ _; decide), (by show 2 * 8 ≤ _; decide)⟩
theorem ex_good : goodF exD = true := by decide +kernel
theorem ex_select : (selectF exD 7 3).length = 2 := by decide +kernel
theorem ex_leaves : leavesF exD 4 (-1) = [0, 1, 2, 3] := by decide +kernel
theorem ex_under : underF exD 2 1 = some (-3) := by decide +kernel
theorem ex_tree : (treeF exD).length = 7 ∧ (treeF exD)[0]? = some ⟨#[114, 111, 111, 116, 32, 45, 49, 32, 50, 54, 50, 49, 52, 52]⟩ ∧ (treeF exD)[2]? = some ⟨#[32, 32, 32, 32, 111, 115, 100, 32, 48, 32, 54, 53, 53, 51, 54]⟩ := by decide +kernel
theorem awake8_x {H : AH} {e : TypeId} (hT : H.at 1 = some (.frz tabL e)) : WC Tryd.prog (tabOf Tryd.prog NT0) S0 8 [] H fun r h' => Ext H.n H h' ∧ r = .lit (.bool true) := by
  refine WC_fn Tryd.func8 rfl rfl ?_
  have lt := at_lt hT
  simp only [core, Nat.reduceAdd, Nat.reduceSub, Nat.reduceMul, Nat.reduceLT, Nat.reduceEqDiff, reduceCtorEq, Nat.reduceLeDiff, Int.reduceLE, Int.reduceLT, Int.reduceToNat, Tryd.ntmps8]
  refine example_x.mono ?_
  rintro _ h1 ⟨e1, vo, vp, vb, rfl, hm⟩
  have T1 := (e1.2 _ lt).trans hT
  have o1 := hm.o.one
  have o2 := hm.p.one
  have o3 := hm.b.one
  simp only [core, Nat.reduceAdd, Nat.reduceSub, Nat.reduceMul, Nat.reduceLT, Nat.reduceEqDiff, reduceCtorEq, Nat.reduceLeDiff, Int.reduceLE, Int.reduceLT, Int.reduceToNat, mpV, o1, o2, o3]
  refine (tree_x (F := fun b => H.n ≤ b ∧ b < h1.n) ⟨hm.o.lift fun b hb hlt => ⟨rfl, hb, hlt⟩, hm.p.lift fun b hb hlt => ⟨rfl, hb, hlt⟩, hm.b.lift fun b hb hlt => ⟨rfl, hb, hlt⟩⟩ (fun b hb => hb.2) exm_ok T1 (by rw [ex_tree.1]; decide)).mono ?_
  rintro vt h2 ⟨e2, ht⟩
  have E2 := e1.step e2
  have t1 := ht.isSl
  have t2 := ht.lenD
  have t3 := ht.one
  simp only [core, Nat.reduceAdd, Nat.reduceSub, Nat.reduceMul, Nat.reduceLT, Nat.reduceEqDiff, reduceCtorEq, Nat.reduceLeDiff, Int.reduceLE, Int.reduceLT, Int.reduceToNat, t3]
  refine example_x.mono ?_
  rintro _ h3 ⟨e3, uo, up, ub, rfl, hm3⟩
  have E3 := E2.step e3
  have p1 := hm3.o.one
  have p2 := hm3.p.one
  have p3 := hm3.b.one
  simp only [core, Nat.reduceAdd, Nat.reduceSub, Nat.reduceMul, Nat.reduceLT, Nat.reduceEqDiff, reduceCtorEq, Nat.reduceLeDiff, Int.reduceLE, Int.reduceLT, Int.reduceToNat, mpV, p1, p2, p3]
  refine (under_x 2 1 hm3 exm_ok).mono ?_
  rintro _ h4 ⟨e4, rfl⟩
  have E4 := E3.step e4
  rw [ex_under]
  simp only [core, Nat.reduceAdd, Nat.reduceSub, Nat.reduceMul, Nat.reduceLT, Nat.reduceEqDiff, reduceCtorEq, Nat.reduceLeDiff, Int.reduceLE, Int.reduceLT, Int.reduceToNat, optV, pairV]
  refine example_x.mono ?_
  rintro _ h5 ⟨e5, xo, xp, xb, rfl, hm5⟩
  have E5 := E4.step e5
  have q1 := hm5.o.one
  have q2 := hm5.p.one
  have q3 := hm5.b.one
  simp only [core, Nat.reduceAdd, Nat.reduceSub, Nat.reduceMul, Nat.reduceLT, Nat.reduceEqDiff, reduceCtorEq, Nat.reduceLeDiff, Int.reduceLE, Int.reduceLT, Int.reduceToNat, mpV, q1, q2, q3]
  refine (selectC_x 7 3 hm5 exm_ok (by show 4 * 40 ≤ _; decide)).mono ?_
  rintro vs h6 ⟨e6, hs⟩
  have E6 := E5.step e6
  have s1 := hs.isSl
  have s2 := hs.lenD
  rw [ex_select] at s2
  have h22 : (((2 : Nat) : Int) == 2) = true := rfl
  have h77 : (((7 : Nat) : Int) == 7) = true := rfl
  simp only [core, Nat.reduceAdd, Nat.reduceSub, Nat.reduceMul, Nat.reduceLT, Nat.reduceEqDiff, reduceCtorEq, Nat.reduceLeDiff, Int.reduceLE, Int.reduceLT, Int.reduceToNat, s1, s2, h22]
  refine example_x.mono ?_
  rintro _ h7 ⟨e7, yo, yp, yb, rfl, hm7⟩
  have E7 := E6.step e7
  have z1 := hm7.o.one
  have z2 := hm7.p.one
  have z3 := hm7.b.one
  simp only [core, Nat.reduceAdd, Nat.reduceSub, Nat.reduceMul, Nat.reduceLT, Nat.reduceEqDiff, reduceCtorEq, Nat.reduceLeDiff, Int.reduceLE, Int.reduceLT, Int.reduceToNat, mpV, z1, z2, z3, h22]
  refine (leaves_x exm_ok ex_good 4 (-1) (by decide +kernel) ⟨by decide, by decide⟩ hm7 (by rw [ex_leaves]; decide)).mono ?_
  rintro vl h8 ⟨e8, hl⟩
  rw [ex_leaves] at hl
  have E8 := E7.step e8
  have l1 := hl.isSl
  simp only [core, Nat.reduceAdd, Nat.reduceSub, Nat.reduceMul, Nat.reduceLT, Nat.reduceEqDiff, reduceCtorEq, Nat.reduceLeDiff, Int.reduceLE, Int.reduceLT, Int.reduceToNat, l1, h22]
  obtain ⟨h9, hh9⟩ : ∃ h9, h9 = h8.push (.cells [.lit (.int .i64 0), .lit (.int .i64 1), .lit (.int .i64 2), .lit (.int .i64 3)] 3) := ⟨_, rfl⟩
  have e9 : Ext h8.n h8 h9 := hh9 ▸ (Ext.refl _ _).push _ (Nat.le_refl _)
  have A9 : h9.at h8.n = some (.cells [.lit (.int .i64 0), .lit (.int .i64 1), .lit (.int .i64 2), .lit (.int .i64 3)] 3) := hh9 ▸ at_push_n _ _
  rw [← hh9]
  clear hh9
  have E9 := E8.step e9
  have i64 : ∀ n : Int, -200000 ≤ n → n ≤ 200000 → I64 n := fun n a b => ⟨by omega, by omega⟩
  have hl9 : IsSl RInt (fun _ => True) h9 (.sl h8.n 0 4 (.kn 4)) [0, 1, 2, 3] := IsSl.ofAt (L := [[.lit (.int .i64 0)], [.lit (.int .i64 1)], [.lit (.int .i64 2)], [.lit (.int .i64 3)]]) A9 trivial ((((Els.nil.snoc (RInt_is.2 ⟨rfl, i64 _ (by decide) (by decide)⟩)).snoc (RInt_is.2 ⟨rfl, i64 _ (by decide) (by decide)⟩)).snoc (RInt_is.2 ⟨rfl, i64 _ (by decide) (by decide)⟩)).snoc (RInt_is.2 ⟨rfl, i64 _ (by decide) (by decide)⟩)) rfl
  refine (ints_x (hl.ext e9 (Nat.le_refl _)) hl9 (by decide)).mono ?_
  rintro _ h ⟨rfl, rfl⟩
  have hq : (([0, 1, 2, 3] : List Int) == [0, 1, 2, 3]) = true := by decide
  have ht9 := ht.ext ((((((e3.step e4).step e5).step e6).step e7).step e8).step e9) (Nat.le_refl _)
  obtain ⟨c0, i0, hd0, hd00⟩ := ht9.at (T := tabOf Tryd.prog NT0) (z := 1) rfl ex_tree.2.1
  obtain ⟨c2, i2, hd2, hd20⟩ := ht9.at (T := tabOf Tryd.prog NT0) (z := 1) rfl ex_tree.2.2
  rw [ex_tree.1] at t2
  rw [hq]
  have h33 : (((-3 : Int)) == -3) = true := rfl
  have c0e : c0 = [.lit (.string ⟨#[114, 111, 111, 116, 32, 45, 49, 32, 50, 54, 50, 49, 52, 52]⟩)] := i0
  have c2e : c2 = [.lit (.string ⟨#[32, 32, 32, 32, 111, 115, 100, 32, 48, 32, 54, 53, 53, 51, 54]⟩)] := i2
  subst c0e c2e
  have hse : ∀ (P : Program) (t : TypeId) (a : ByteArray), pur P (binOp .eql t (Value.string a) (Value.string a)) = some (.ok (Value.bool true)) := fun P t a => by
    show pur P (pure (Value.bool (a.toList == a.toList))) = _
    rw [beq_self_eq_true]
    rfl
  have w0 : loadA (tabOf Tryd.prog NT0) h 9 (slB vt) (slO vt) = some (.lit (.string ⟨#[114, 111, 111, 116, 32, 45, 49, 32, 50, 54, 50, 49, 52, 52]⟩)) := (hd00 9 1 (by kernel_rfl) (by decide) (by decide)).trans (by kernel_rfl)
  have w2 : loadA (tabOf Tryd.prog NT0) h 9 (slB vt) (slO vt + 2) = some (.lit (.string ⟨#[32, 32, 32, 32, 111, 115, 100, 32, 48, 32, 54, 53, 53, 51, 54]⟩)) := (hd20 9 1 (by kernel_rfl) (by decide) (by decide)).trans (by kernel_rfl)
  simp only [core, Nat.reduceAdd, Nat.reduceSub, Nat.reduceMul, Nat.reduceLT, Nat.reduceEqDiff, reduceCtorEq, Nat.reduceLeDiff, Int.reduceLE, Int.reduceLT, Int.reduceToNat, t1, t2, h22, h77, h33, w0, w2, hse]
  exact E9
end Go.Proofs.YtkgbeihcepociaaDoor.Ex
end

section

set_option linter.unusedSimpArgs false
set_option linter.unusedVariables false
set_option maxRecDepth 10000
set_option maxHeartbeats 4000000
namespace Go.Proofs.YtkgbeihcepociaaDoor.Ex
open Go
section
variable {P : Program} {T : TT} {t : TM} {h : AH} {d : Option Tmp} {ty : TypeId} {ps : String} {af : Array Edge} {g : Option (Nat × Bool)}
/-- Bytes as a text. -/
def aConQ (P : Program) (T : TT) (o : Oper) (t : TM) (h : AH) (src dst : TypeId) (x : Operand) : AR := aConvert P T o t h src dst x
def conM (h : AH) (r : AR) : AV → AR
  | .sl b off len _ => match bytesAt h b off len with
    | some bs => some (.val (.lit (.string ⟨bs.toArray⟩)), h)
    | none => r
  | _ => r
theorem conM_sl {r : AR} {b off len : Nat} {cap : Cap} : conM h r (.sl b off len cap) = match bytesAt h b off len with
    | some bs => some (.val (.lit (.string ⟨bs.toArray⟩)), h)
    | none => r := rfl
theorem a_conM {i : Nat} : aConR Tryd.prog (tabOf Tryd.prog NT0) ⟨d, .convert 104 9 (.tmp i), ty, ps, af, g⟩ t h 104 9 (.tmp i) = conM h (aConQ Tryd.prog (tabOf Tryd.prog NT0) ⟨d, .convert 104 9 (.tmp i), ty, ps, af, g⟩ t h 104 9 (.tmp i)) (t.get i) := by
  unfold conM
  split
  · rename_i b off len cap hv
    split
    · rename_i bs hbs
      have hu1 : und (tabOf Tryd.prog NT0) 104 = some (.slice 5) := by kernel_rfl
      have hu2 : und (tabOf Tryd.prog NT0) 9 = some .string := by kernel_rfl
      have hu3 : und (tabOf Tryd.prog NT0) 5 = some (.int .u8) := by kernel_rfl
      have hl : litOp Tryd.prog ⟨d, .convert 104 9 (.tmp i), ty, ps, af, g⟩ t = none := by
        unfold litOp
        rw [if_neg]
        simp [Op.operands, litAll, ev_tmp, hv, toVal]
      unfold aConR aConvert
      rw [ev_tmp, hv]
      unfold orLit
      rw [hl]
      simp only [aConv1, hu1, hu2, hu3, hbs, Option.map_some, val]
    · rfl
  · rfl
theorem a_bin_st {op : BinOp} {e f : TypeId} {j : Nat} {n : ByteArray} : aop P T ⟨d, .binOp op e (.const (.string n)) (.tmp j) f, ty, ps, af, g⟩ t h = (match t.get j with
   | .lit (.string b) => ofPV h (pur P (binOp op e (Value.string n) (Value.string b)))
   | _ => aBin P T ⟨d, .binOp op e (.const (.string n)) (.tmp j) f, ty, ps, af, g⟩ t h op e (.const (.string n)) (.tmp j)) := by
  rw [a_bin]
  split
  · rename_i b hb
    unfold aBin
    rw [ev_tmp, hb]
    rfl
  · rfl
end
theorem dec_big {u : Nat} (h : ¬ u < 10) : Lib.decDigits u = Lib.decDigits (u / 10) ++ [UInt8.ofNat (48 + u % 10)] := by rw [Lib.decDigits, dif_neg h]
theorem ba_append (a b : List UInt8) : (⟨a.toArray⟩ : ByteArray) ++ ⟨b.toArray⟩ = ⟨(a ++ b).toArray⟩ := by
  apply ByteArray.ext
  simp
theorem digits_x {H : AH} (N : Nat) (hN : N < 18446744073709551616) : WC Tryd.prog (tabOf Tryd.prog NT0) S0 60 [.lit (.int .u64 (N : Int))] H fun r h' => Ext H.n H h' ∧ r = .lit (.string ⟨(Lib.decDigits N).toArray⟩) := by
  refine WC_fn Tryd.func60 rfl rfl ?_
  simp only [core, Nat.reduceAdd, Nat.reduceSub, Nat.reduceMul, Nat.reduceLT, Nat.reduceEqDiff, reduceCtorEq, Nat.reduceLeDiff, Int.reduceLE, Int.reduceLT, Int.reduceToNat, Tryd.ntmps60]
  refine WB_ind (fun (n : Nat) t h => ∃ l : List UInt8, n < 18446744073709551616 ∧ Lib.decDigits N = Lib.decDigits n ++ l ∧ l.length ≤ 20 ∧ Ext H.n H h ∧ t.n = 23 ∧ t.get 0 = .lit (.int .u64 (n : Int)) ∧ t.get 3 = .lit (.string ⟨l.toArray⟩)) (fun n => n) ?_ N _ _ ?_
  · rintro n t h ⟨l, hn64, hdec, hll, he, hn, g0, g3⟩ ih
    have hs2 : ∀ (c : UInt8) (P : Program), pur P (binOp .add 9 (Value.string ⟨[c].toArray⟩) (Value.string ⟨l.toArray⟩)) = some (.ok (Value.string ⟨(c :: l).toArray⟩)) := fun c P => by
      rw [pur_sadd (by show 1 + l.toArray.size ≤ _; rw [List.size_toArray]; omega), ba_append]
      rfl
    by_cases hq : 9 < n
    · have c1 : ((9 : Int) < (n : Int)) = True := by simp only [eq_iff_iff, iff_true]; omega
      have hmod : (n : Int).tmod 10 = ((n % 10 : Nat) : Int) := rfl
      have hdiv : (n : Int).tdiv 10 = ((n / 10 : Nat) : Int) := rfl
      have h10 : ((10 : Int) = 0) = False := by simp
      have hw1 : IntKind.u64.wrap (48 + ((n % 10 : Nat) : Int)) = ((48 + n % 10 : Nat) : Int) := (IntWalk.u64_in _ ⟨by omega, by omega⟩).trans (by omega)
      have hw2 : IntKind.u8.wrap ((48 + n % 10 : Nat) : Int) = ((48 + n % 10 : Nat) : Int) := IntWalk.u8_in _ ⟨by omega, by omega⟩
      have hw3 : IntKind.u64.wrap ((n / 10 : Nat) : Int) = ((n / 10 : Nat) : Int) := IntWalk.u64_in _ ⟨by omega, by omega⟩
      have hbt : bytesAt (h.push (.cells [.lit (.int .u8 ((48 + n % 10 : Nat) : Int))] 5)) h.n 0 1 = some [UInt8.ofNat (48 + n % 10)] := by
        have hlt : Nat.blt (48 + n % 10) 256 = true := by rw [Nat.blt_eq]; omega
        unfold bytesAt getR
        rw [at_push_n]
        show bytesA [.lit (.int .u8 (Int.ofNat (48 + n % 10)))] = _
        simp only [bytesA, hlt, cond_true, Option.map_some]
      have hs3 := hs2 (UInt8.ofNat (48 + n % 10))
      simp only [core, Nat.reduceAdd, Nat.reduceSub, Nat.reduceMul, Nat.reduceLT, Nat.reduceEqDiff, reduceCtorEq, Nat.reduceLeDiff, Int.reduceLE, Int.reduceLT, Int.reduceToNat, hn, g0, g3, c1, hmod, hdiv, h10, hw1, hw2, hw3, a_conM, conM_sl, hbt, hs3, ofPV_str]
      have hlen : (Lib.decDigits N).length ≤ 20 := by rw [Lib.decDigits_length]; exact Lib.nDigits_le20 N hN
      have hd := dec_big (show ¬ n < 10 by omega)
      refine ih (n / 10) _ _ ⟨UInt8.ofNat (48 + n % 10) :: l, by omega, by rw [hdec, hd, List.append_assoc]; rfl, ?_, he.push _ he.1, ?_⟩ (by omega)
      · rw [hdec, hd, List.length_append, List.length_append] at hlen
        simp only [List.length_cons, List.length_nil] at hlen ⊢
        omega
      · simp only [core, Nat.reduceAdd, Nat.reduceSub, Nat.reduceMul, Nat.reduceLT, Nat.reduceEqDiff, reduceCtorEq, Nat.reduceLeDiff, Int.reduceLE, Int.reduceLT, Int.reduceToNat, hn, g0, g3]
    · have c1 : ((9 : Int) < (n : Int)) = False := by simp only [eq_iff_iff, iff_false]; omega
      have hw1 : IntKind.u64.wrap (48 + (n : Int)) = ((48 + n : Nat) : Int) := (IntWalk.u64_in _ ⟨by omega, by omega⟩).trans (by omega)
      have hw2 : IntKind.u8.wrap ((48 + n : Nat) : Int) = ((48 + n : Nat) : Int) := IntWalk.u8_in _ ⟨by omega, by omega⟩
      have hbt : bytesAt (h.push (.cells [.lit (.int .u8 ((48 + n : Nat) : Int))] 5)) h.n 0 1 = some [UInt8.ofNat (48 + n)] := by
        have hlt : Nat.blt (48 + n) 256 = true := by rw [Nat.blt_eq]; omega
        unfold bytesAt getR
        rw [at_push_n]
        show bytesA [.lit (.int .u8 (Int.ofNat (48 + n)))] = _
        simp only [bytesA, hlt, cond_true, Option.map_some]
      have hs3 := hs2 (UInt8.ofNat (48 + n))
      simp only [core, Nat.reduceAdd, Nat.reduceSub, Nat.reduceMul, Nat.reduceLT, Nat.reduceEqDiff, reduceCtorEq, Nat.reduceLeDiff, Int.reduceLE, Int.reduceLT, Int.reduceToNat, hn, g0, g3, c1, hw1, hw2, a_conM, conM_sl, hbt, hs3, ofPV_str]
      refine ⟨he.push _ he.1, ?_⟩
      rw [hdec, Lib.decDigits_one (show n < 10 by omega)]
      rfl
  · refine ⟨[], hN, by simp, by simp, Ext.refl _ _, ?_⟩
    simp only [core, Nat.reduceAdd, Nat.reduceSub, Nat.reduceMul, Nat.reduceLT, Nat.reduceEqDiff, reduceCtorEq, Nat.reduceLeDiff, Int.reduceLE, Int.reduceLT, Int.reduceToNat]
theorem text_x {H : AH} (n : Int) (hn : I64 n) : WC Tryd.prog (tabOf Tryd.prog NT0) S0 49 [.lit (.int .i64 n)] H fun r h' => Ext H.n H h' ∧ r = .lit (.string (itoaB n)) := by
  refine WC_fn Tryd.func49 rfl rfl ?_
  obtain ⟨n1, n2⟩ := hn
  by_cases h0 : n < 0
  · obtain ⟨k, rfl⟩ : ∃ k : Nat, n = -((k : Int) + 1) := ⟨(-n - 1).toNat, by omega⟩
    have hw1 : IntKind.i64.wrap (-((k : Int) + 1) + 1) = -(k : Int) := (wrap_in (by omega) (by omega)).trans (by omega)
    have hw2 : IntKind.i64.wrap (0 - -(k : Int)) = (k : Int) := (wrap_in (by omega) (by omega)).trans (by omega)
    have hw3 : IntKind.u64.wrap (k : Int) = (k : Int) := IntWalk.u64_in _ ⟨by omega, by omega⟩
    have hw4 : IntKind.u64.wrap ((k : Int) + 1) = ((k + 1 : Nat) : Int) := (IntWalk.u64_in _ ⟨by omega, by omega⟩).trans (by omega)
    simp only [core, Nat.reduceAdd, Nat.reduceSub, Nat.reduceMul, Nat.reduceLT, Nat.reduceEqDiff, reduceCtorEq, Nat.reduceLeDiff, Int.reduceLE, Int.reduceLT, Int.reduceToNat, Tryd.ntmps49, h0, hw1, hw2, hw3, hw4]
    refine (digits_x (k + 1) (by omega)).mono ?_
    rintro _ h2 ⟨e2, rfl⟩
    have hlen : (Lib.decDigits (k + 1)).length ≤ 20 := by rw [Lib.decDigits_length]; exact Lib.nDigits_le20 _ (by omega)
    have hs : ∀ P : Program, pur P (binOp .add 9 (Value.string ⟨#[45]⟩) (Value.string ⟨(Lib.decDigits (k + 1)).toArray⟩)) = some (.ok (Value.string (itoaB (-((k : Int) + 1))))) := fun P => by
      rw [pur_sadd (by show 1 + (Lib.decDigits (k + 1)).toArray.size ≤ _; rw [List.size_toArray]; omega)]
      have : itoaB (-((k : Int) + 1)) = ⟨(45 :: Lib.decDigits (k + 1)).toArray⟩ := by
        unfold itoaB Lib.itoa
        rw [if_pos (by omega), show (-((k : Int) + 1)).natAbs = k + 1 by omega]
      rw [this, show (⟨#[45]⟩ : ByteArray) = ⟨[45].toArray⟩ from rfl, ba_append]
      rfl
    simp only [core, Nat.reduceAdd, Nat.reduceSub, Nat.reduceMul, Nat.reduceLT, Nat.reduceEqDiff, reduceCtorEq, Nat.reduceLeDiff, Int.reduceLE, Int.reduceLT, Int.reduceToNat, a_bin_st, hs, ofPV_str]
    exact e2
  · obtain ⟨k, rfl⟩ : ∃ k : Nat, n = (k : Int) := ⟨n.toNat, by omega⟩
    have hw3 : IntKind.u64.wrap (k : Int) = (k : Int) := IntWalk.u64_in _ ⟨by omega, by omega⟩
    simp only [core, Nat.reduceAdd, Nat.reduceSub, Nat.reduceMul, Nat.reduceLT, Nat.reduceEqDiff, reduceCtorEq, Nat.reduceLeDiff, Int.reduceLE, Int.reduceLT, Int.reduceToNat, Tryd.ntmps49, h0, hw3]
    refine (digits_x k (by omega)).mono ?_
    rintro _ h2 ⟨e2, rfl⟩
    simp only [core, Nat.reduceAdd, Nat.reduceSub, Nat.reduceMul, Nat.reduceLT, Nat.reduceEqDiff, reduceCtorEq, Nat.reduceLeDiff, Int.reduceLE, Int.reduceLT, Int.reduceToNat]
    refine ⟨e2, ?_⟩
    unfold itoaB Lib.itoa
    rw [if_neg h0, Int.toNat_natCast]
end Go.Proofs.YtkgbeihcepociaaDoor.Ex
end

section

set_option linter.unusedSimpArgs false
set_option linter.unusedVariables false
set_option maxRecDepth 10000
set_option maxHeartbeats 4000000
namespace Go.Proofs.YtkgbeihcepociaaDoor.Ex
open Go
def wAcc (m : MapD) (id : Int) (i : Nat) : Int := match (m.buckets.take i).find? (fun b => b.id == id) with
  | some b => sumW b.weights b.weights.length
  | none => 0
theorem sumW_zero (l : List Int) : sumW l 0 = 0 := rfl
theorem weightR_x {F : Nat → Prop} {H : AH} {m : MapD} {vo vp vb : AV} (id : Int) (hm : MpAt F H m vo vp vb) (hok : OkM m) (hg : goodF m = true) (hid : id < 0) :
    WC Tryd.prog (tabOf Tryd.prog NT0) S0 33 [mpV m vo vp vb, .lit (.int .i64 id)] H fun v h' => Ext H.n H h' ∧ v = .lit (.int .i64 (weightF m id)) := by
  refine WC_fn Tryd.func33 rfl rfl ?_
  obtain ⟨hl, hbs, -⟩ := _root_.id hok
  have hl' := hl
  unfold Sm at hl'
  have o1 := hm.o.one
  have o2 := hm.p.one
  have o3 := hm.b.one
  have s1 := hm.b.isSl
  have s2 := hm.b.lenD
  simp only [core, Nat.reduceAdd, Nat.reduceSub, Nat.reduceMul, Nat.reduceLT, Nat.reduceEqDiff, reduceCtorEq, Nat.reduceLeDiff, Int.reduceLE, Int.reduceLT, Int.reduceToNat, Tryd.ntmps33, mpV, o1, o2, o3]
  obtain ⟨h1, hh1⟩ : ∃ h1, h1 = H.push (.cells [.lit (.int .i64 m.epoch), vo, vp, vb, .lit (.int .i64 m.leaf)] 26) := ⟨_, rfl⟩
  have E1 : Ext H.n H h1 := hh1 ▸ (Ext.refl _ _).push _ (Nat.le_refl _)
  have P1 : h1.at H.n = some (.cells [.lit (.int .i64 m.epoch), vo, vp, vb, .lit (.int .i64 m.leaf)] 26) := hh1 ▸ at_push_n _ _
  rw [← hh1]
  clear hh1
  have lp1 := at_lt P1
  refine (good_x (hm.ext E1 (Nat.le_refl _)) hok).mono ?_
  rintro _ h2 ⟨e2, rfl⟩
  rw [hg]
  have E2 := E1.step e2
  have P2 := (e2.2 _ lp1).trans P1
  have lp2 := at_lt P2
  have LP2 := ld_at (T := tabOf Tryd.prog NT0) P2
  simp only [core, Nat.reduceAdd, Nat.reduceSub, Nat.reduceMul, Nat.reduceLT, Nat.reduceEqDiff, reduceCtorEq, Nat.reduceLeDiff, Int.reduceLE, Int.reduceLT, Int.reduceToNat, LP2, lp2, s1, s2]
  have c0 : (0 ≤ id) = False := by simp only [eq_iff_iff, iff_false]; omega
  refine WB_for m.buckets.length (fun i t h => Ext h2.n h2 h ∧ t.n = 60 ∧ t.get 1 = .lit (.int .i64 id) ∧ t.get 5 = .lit (.int .i64 (wAcc m id i)) ∧ t.get 16 = vb ∧ t.get 17 = .lit (.int .i64 m.buckets.length) ∧ t.get 18 = .lit (.int .i64 i)) ?_ ?_ _ _ ?_
  · rintro i t h hlt hc ⟨he, hn, g1, g5, g16, g17, g18⟩ ih
    obtain ⟨x, hx⟩ : ∃ x, m.buckets[i]? = some x := ⟨_, List.getElem?_eq_getElem hlt⟩
    have hxm := List.mem_of_getElem? hx
    have EH := E2.step he
    obtain ⟨c, hc1, hld, hld0⟩ := hm.b.atE (T := tabOf Tryd.prog NT0) EH RBkt_z hx
    obtain ⟨va, vw, rfl, ha, hw, i1, i2⟩ := RBkt_is.1 hc1
    have a1 := ha.one
    have w1 := hw.one
    have a2 := ha.isSl
    have a3 := ha.lenD
    have w2 := hw.isSl
    have w3 := hw.lenD
    have hws := wrap_succ hlt (by omega)
    obtain ⟨k1, k2⟩ := hbs x hxm
    unfold Sm at k1 k2
    have hacc : wAcc m id (i + 1) = if x.id = id then (match (m.buckets.take i).find? (fun b => b.id == id) with | some b => sumW b.weights b.weights.length | none => sumW x.weights x.weights.length) else wAcc m id i := by
      unfold wAcc
      rw [List.take_add_one, hx, Option.toList_some, List.find?_append]
      cases hf : (m.buckets.take i).find? (fun b => b.id == id) with
      | some b => simp
      | none =>
        by_cases hq : x.id = id
        · simp [hq]
        · have hq' : (x.id == id) = false := by rw [beq_eq_false_iff_ne]; exact hq
          simp [List.find?_cons, hq', hq]
    simp only [core, Nat.reduceAdd, Nat.reduceSub, Nat.reduceMul, Nat.reduceLT, Nat.reduceEqDiff, reduceCtorEq, Nat.reduceLeDiff, Int.reduceLE, Int.reduceLT, Int.reduceToNat, hn, g1, g5, g16, g17, g18, hlt, hc, s1, s2, hld, hld0, a1, w1, a2, a3]
    obtain ⟨h3, hh3⟩ : ∃ h3, h3 = h.push (.cells [.lit (.int .i64 x.id), .lit (.int .i64 x.kind), va, vw] 47) := ⟨_, rfl⟩
    have e3 : Ext h.n h h3 := hh3 ▸ (Ext.refl _ _).push _ (Nat.le_refl _)
    have P3 : h3.at h.n = some (.cells [.lit (.int .i64 x.id), .lit (.int .i64 x.kind), va, vw] 47) := hh3 ▸ at_push_n _ _
    rw [← hh3]
    clear hh3
    have lp3 := at_lt P3
    have LP3 := ld_at (T := tabOf Tryd.prog NT0) P3
    have hva := ha.ext (EH.step e3) (Nat.le_refl _)
    have hvw := hw.ext (EH.step e3) (Nat.le_refl _)
    refine WB_for x.items.length (fun j t h' => h' = h3 ∧ t.n = 60 ∧ t.get 1 = .lit (.int .i64 id) ∧ t.get 5 = .lit (.int .i64 (wAcc m id i)) ∧ t.get 7 = .ptr h.n 0 ∧ t.get 16 = vb ∧ t.get 17 = .lit (.int .i64 m.buckets.length) ∧ t.get 18 = .lit (.int .i64 i) ∧ t.get 23 = va ∧ t.get 24 = .lit (.int .i64 x.items.length) ∧ t.get 25 = .lit (.int .i64 j)) ?_ ?_ _ _ ?_
    · rintro j t h' hlt3 hc3 ⟨rfl, hn, g1, g5, g7, g16, g17, g18, g23, g24, g25⟩ ih2
      have hld3 := hva.int (T := tabOf Tryd.prog NT0) (e := 3) (by kernel_rfl) (by kernel_rfl) hlt3
      have hws3 := wrap_succ hlt3 (by omega)
      simp only [core, Nat.reduceAdd, Nat.reduceSub, Nat.reduceMul, Nat.reduceLT, Nat.reduceEqDiff, reduceCtorEq, Nat.reduceLeDiff, Int.reduceLE, Int.reduceLT, Int.reduceToNat, hn, g1, g5, g7, g16, g17, g18, g23, g24, g25, hlt3, hc3, hld3, a2, a3, c0, hws3, aundef]
      refine ih2 _ _ ⟨rfl, ?_⟩
      simp only [core, Nat.reduceAdd, Nat.reduceSub, Nat.reduceMul, Nat.reduceLT, Nat.reduceEqDiff, reduceCtorEq, Nat.reduceLeDiff, Int.reduceLE, Int.reduceLT, Int.reduceToNat, hn, g1, g5, g7, g16, g17, g18, g23, g24, g25]
    · rintro t h' hc3 ⟨rfl, hn, g1, g5, g7, g16, g17, g18, g23, g24, g25⟩
      by_cases hq : x.id = id
      · have c4 : (x.id == id) = true := by rw [hq]; exact beq_self_eq_true _
        rw [if_pos hq] at hacc
        have hnone : (m.buckets.take i).find? (fun b => b.id == id) = none := by
          rw [List.find?_eq_none]
          intro b hb hbi
          have hb' := eq_of_beq hbi
          unfold goodF at hg
          simp only [Bool.and_eq_true, List.all_eq_true] at hg
          have h9 := hg.2 i (List.mem_range.2 hlt)
          rw [getD_of hx] at h9
          unfold bOk at h9
          simp only [Bool.and_eq_true] at h9
          have h10 := h9.1.1
          unfold hdOk at h10
          simp only [Bool.and_eq_true, Bool.not_eq_true'] at h10
          have := List.any_eq_false.1 h10.1.1.1.1 b hb
          rw [hb', hq] at this
          simp at this
        have hz : wAcc m id i = 0 := by unfold wAcc; rw [hnone]
        rw [hnone] at hacc
        rw [hz] at g5
        simp only [core, Nat.reduceAdd, Nat.reduceSub, Nat.reduceMul, Nat.reduceLT, Nat.reduceEqDiff, reduceCtorEq, Nat.reduceLeDiff, Int.reduceLE, Int.reduceLT, Int.reduceToNat, hn, g1, g5, g7, g16, g17, g18, g23, g24, g25, hc3, LP3, lp3, c4, w2, w3]
        refine WB_for x.weights.length (fun j t h'' => h'' = h' ∧ t.n = 60 ∧ t.get 1 = .lit (.int .i64 id) ∧ t.get 5 = .lit (.int .i64 (sumW x.weights j)) ∧ t.get 16 = vb ∧ t.get 17 = .lit (.int .i64 m.buckets.length) ∧ t.get 18 = .lit (.int .i64 i) ∧ t.get 48 = vw ∧ t.get 49 = .lit (.int .i64 x.weights.length) ∧ t.get 50 = .lit (.int .i64 j)) ?_ ?_ _ _ ?_
        · rintro j t h'' hlt4 hc4 ⟨rfl, hn, g1, g5, g16, g17, g18, g48, g49, g50⟩ ih4
          have hld4 := hvw.int (T := tabOf Tryd.prog NT0) (e := 3) (by kernel_rfl) (by kernel_rfl) hlt4
          have hws4 := wrap_succ hlt4 (by omega)
          have hsu := sumW_succ hlt4
          simp only [core, Nat.reduceAdd, Nat.reduceSub, Nat.reduceMul, Nat.reduceLT, Nat.reduceEqDiff, reduceCtorEq, Nat.reduceLeDiff, Int.reduceLE, Int.reduceLT, Int.reduceToNat, hn, g1, g5, g16, g17, g18, g48, g49, g50, hlt4, hc4, hld4, w2, w3, hws4, ← hsu]
          refine ih4 _ _ ⟨rfl, ?_⟩
          simp only [core, Nat.reduceAdd, Nat.reduceSub, Nat.reduceMul, Nat.reduceLT, Nat.reduceEqDiff, reduceCtorEq, Nat.reduceLeDiff, Int.reduceLE, Int.reduceLT, Int.reduceToNat, hn, g1, g5, g16, g17, g18, g48, g49, g50]
        · rintro t h'' hc4 ⟨rfl, hn, g1, g5, g16, g17, g18, g48, g49, g50⟩
          simp only [core, Nat.reduceAdd, Nat.reduceSub, Nat.reduceMul, Nat.reduceLT, Nat.reduceEqDiff, reduceCtorEq, Nat.reduceLeDiff, Int.reduceLE, Int.reduceLT, Int.reduceToNat, hn, g1, g5, g16, g17, g18, g48, g49, g50, hc4, hws]
          refine ih _ _ ⟨he.step e3, ?_⟩
          rw [hacc]
          simp only [core, Nat.reduceAdd, Nat.reduceSub, Nat.reduceMul, Nat.reduceLT, Nat.reduceEqDiff, reduceCtorEq, Nat.reduceLeDiff, Int.reduceLE, Int.reduceLT, Int.reduceToNat, hn, g1, g5, g16, g17, g18, g48, g49, g50]
        · refine ⟨rfl, ?_⟩
          rw [sumW_zero]
          simp only [core, Nat.reduceAdd, Nat.reduceSub, Nat.reduceMul, Nat.reduceLT, Nat.reduceEqDiff, reduceCtorEq, Nat.reduceLeDiff, Int.reduceLE, Int.reduceLT, Int.reduceToNat, hn, g1, g5, g7, g16, g17, g18, g23, g24, g25]
          (repeat' apply And.intro) <;> first | rfl | trivial
      · have c4 : (x.id == id) = false := by rw [beq_eq_false_iff_ne]; exact hq
        rw [if_neg hq] at hacc
        simp only [core, Nat.reduceAdd, Nat.reduceSub, Nat.reduceMul, Nat.reduceLT, Nat.reduceEqDiff, reduceCtorEq, Nat.reduceLeDiff, Int.reduceLE, Int.reduceLT, Int.reduceToNat, hn, g1, g5, g7, g16, g17, g18, g23, g24, g25, hc3, LP3, lp3, c4, hws]
        refine ih _ _ ⟨he.step e3, ?_⟩
        rw [hacc]
        simp only [core, Nat.reduceAdd, Nat.reduceSub, Nat.reduceMul, Nat.reduceLT, Nat.reduceEqDiff, reduceCtorEq, Nat.reduceLeDiff, Int.reduceLE, Int.reduceLT, Int.reduceToNat, hn, g1, g5, g7, g16, g17, g18, g23, g24, g25]
    · refine ⟨rfl, ?_⟩
      simp only [core, Nat.reduceAdd, Nat.reduceSub, Nat.reduceMul, Nat.reduceLT, Nat.reduceEqDiff, reduceCtorEq, Nat.reduceLeDiff, Int.reduceLE, Int.reduceLT, Int.reduceToNat, hn, g1, g5, g16, g17, g18]
      (repeat' apply And.intro) <;> first | rfl | trivial
  · rintro t h hc ⟨he, hn, g1, g5, g16, g17, g18⟩
    simp only [core, Nat.reduceAdd, Nat.reduceSub, Nat.reduceMul, Nat.reduceLT, Nat.reduceEqDiff, reduceCtorEq, Nat.reduceLeDiff, Int.reduceLE, Int.reduceLT, Int.reduceToNat, hn, g1, g5, g16, g17, g18, hc]
    refine ⟨E2.step he, ?_⟩
    unfold wAcc weightF bucketG bucketF
    rw [List.take_length]
    cases hf : m.buckets.find? (fun b => b.id == id) with
    | some b => rfl
    | none => rfl
  · refine ⟨Ext.refl _ _, ?_⟩
    simp only [core, Nat.reduceAdd, Nat.reduceSub, Nat.reduceMul, Nat.reduceLT, Nat.reduceEqDiff, reduceCtorEq, Nat.reduceLeDiff, Int.reduceLE, Int.reduceLT, Int.reduceToNat, s1, s2]
    (repeat' apply And.intro) <;> first | rfl | trivial
theorem kind_le3' {m : MapD} (hg : goodF m = true) (a : Int) : kindF m a ≤ 3 := by
  unfold kindF
  split
  · split <;> decide
  · split
    · rename_i h
      obtain ⟨b, hb⟩ := Option.isSome_iff_exists.1 h
      rw [show bucketG m a = b by unfold bucketG; rw [hb]; rfl]
      obtain ⟨u1, u2, u3, u4, _⟩ := good_bkt hg hb
      exact u4
    · decide
/-- A row of texts of the run's own, with no room left in it. -/
def DnS (n0 p0 : Nat) (h : AH) (d : AV) (xs : List ByteArray) : Prop := OwnL RStr (fun _ => False) n0 h d 9 xs ∨ (∃ p, p0 ≤ p ∧ d = .sl p 0 xs.length (.kn xs.length) ∧ h.at p = some (.cells (xs.map fun s => AV.lit (.string s)) 9))
theorem DnS.ext {n0 p0 m : Nat} {h h' : AH} {d : AV} {xs : List ByteArray} (hd : DnS n0 p0 h d xs) (he : Ext m h h') (hm : h.n ≤ m) : DnS n0 p0 h' d xs := by
  rcases hd with ho | ⟨p, hp, rfl, hat⟩
  · exact .inl (ho.ext he hm)
  · exact .inr ⟨p, hp, rfl, (he.2 _ (by have := at_lt hat; omega)).trans hat⟩
theorem strs_els {F : Nat → Prop} {h : AH} (xs : List ByteArray) : Els RStr F h (xs.map fun s => [AV.lit (.string s)]) xs := by
  refine ⟨by simp, fun i c x h1 h2 => ?_⟩
  rw [List.getElem?_map, h2] at h1
  simp only [Option.map_some, Option.some.injEq] at h1
  exact h1.symm
theorem strs_flat (xs : List ByteArray) : (xs.map fun s => [AV.lit (.string s)]).flatten = xs.map fun s => AV.lit (.string s) := by
  induction xs with
  | nil => rfl
  | cons a r ih => simp [ih]
theorem els_strs {F : Nat → Prop} {h : AH} : ∀ {L : List (List AV)} {xs : List ByteArray}, Els RStr F h L xs → L = xs.map fun s => [AV.lit (.string s)] := fun {L xs} hE => by
  apply List.ext_getElem?
  intro i
  by_cases hi : i < L.length
  · have hx : i < xs.length := by rw [← hE.1]; exact hi
    have := hE.2 i _ _ (List.getElem?_eq_getElem hi) (List.getElem?_eq_getElem hx)
    rw [List.getElem?_eq_getElem hi, List.getElem?_map, List.getElem?_eq_getElem hx]
    exact congrArg some this
  · rw [List.getElem?_eq_none (by omega), List.getElem?_eq_none (by rw [List.length_map, ← hE.1]; omega)]
theorem DnS.toSl {F : Nat → Prop} {n0 p0 : Nat} {h : AH} {d : AV} {xs : List ByteArray} (hd : DnS n0 p0 h d xs) (hn : p0 ≤ n0) (h1 : ∀ b, p0 ≤ b → F b) : IsSl RStr F h d xs := by
  rcases hd with ho | ⟨p, hp, rfl, hat⟩
  · exact ho.toSl (fun _ hf => hf.elim) fun b hb => h1 b (Nat.le_trans hn hb)
  · rw [← strs_flat] at hat
    exact IsSl.ofAt hat (h1 _ hp) (strs_els xs) rfl
theorem DnS.append {F : Nat → Prop} {n0 p0 : Nat} {h : AH} {d v : AV} {xs ys : List ByteArray} (hd : DnS n0 p0 h d xs) (hv : IsSl RStr F h v ys) (hn : xs.length + ys.length ≤ 1099511627776) (hn0 : n0 ≤ h.n) :
    ∃ s' h', appendA (tabOf Tryd.prog NT0) h 35 35 d v = some (s', h') ∧ DnS n0 p0 h' s' (xs ++ ys) ∧ Ext n0 h h' := by
  obtain ⟨L, r1, r2, r3, r4⟩ := hv.out
  have hL := els_strs r4
  rcases hd with ho | ⟨p, hp, rfl, hat⟩
  · obtain ⟨s', h', a, b, c, -⟩ := ho.append (T := tabOf Tryd.prog NT0) (t := 35) (tx := 35) (x := v) (by kernel_rfl) (by kernel_rfl) (by kernel_rfl) (zv := .lit (.string ⟨#[]⟩)) (by kernel_rfl) (by' := 16) (by kernel_rfl) rfl (by decide) (by decide) (M := L) (ys := ys) r1.src r1.len ⟨r4.1, fun j c x hc hx => r4.2 j c x hc hx⟩ (by omega) (by omega) hn0
    exact ⟨s', h', a, .inl b, c⟩
  · have hu : und (tabOf Tryd.prog NT0) 35 = some (.slice 9) := by kernel_rfl
    have hz : sizeT (tabOf Tryd.prog NT0) 9 = some 1 := by kernel_rfl
    have hzv : zeroT (tabOf Tryd.prog NT0) 9 = some (.lit (.string ⟨#[]⟩)) := by kernel_rfl
    have hb : bytesT (tabOf Tryd.prog NT0) 9 = some 16 := by kernel_rfl
    simp only [sizeT, zeroT, bytesT, Option.map_eq_some_iff] at hz hzv hb
    obtain ⟨i, hi, hz⟩ := hz
    obtain ⟨i2, hi2, hzv⟩ := hzv
    obtain ⟨i3, hi3, hb⟩ := hb
    rw [hi] at hi2 hi3
    obtain rfl := Option.some.inj hi2
    obtain rfl := Option.some.inj hi3
    have hll : L.length = ys.length := r4.1
    have hfl : L.flatten = ys.map fun s => AV.lit (.string s) := by rw [hL, strs_flat]
    have hA : appendA (tabOf Tryd.prog NT0) h 35 35 (.sl p 0 xs.length (.kn xs.length)) v = appendB h 9 1 ys.length (ys.map fun s => AV.lit (.string s)) (.sl p 0 xs.length (.kn xs.length)) := by
      unfold appendA
      rw [hu]
      have hs : lenA (.sl p 0 xs.length (.kn xs.length)) = some xs.length := rfl
      have hxl : lenA v = some ys.length := by rw [← hll]; exact r1.len
      have hsrc : srcA h 1 v = some (ys.map fun s => AV.lit (.string s)) := by rw [← hfl]; exact r1.src
      simp only [hi, hxl, hs]
      rw [hz]
      rw [show (isSrcD 1 (.slice 9) && Nat.blt 0 1 && Nat.ble 1 200 && Nat.beq i.zero.cells.length 1 && Nat.ble (xs.length + ys.length) 4611686018427387904 && Nat.ble ((xs.length + ys.length) * i.bytes) 140737488355328) = true by
        simp only [Bool.and_eq_true, Nat.ble_eq, Nat.blt_eq]
        exact ⟨⟨⟨⟨⟨rfl, by decide⟩, by decide⟩, by rw [hzv]; rfl⟩, by omega⟩, by rw [hb]; omega⟩]
      simp only [cond_true, hsrc]
      rw [show (Nat.beq (ys.map fun s => AV.lit (.string s)).length (ys.length * 1) && (ys.map fun s => AV.lit (.string s)).all AV.one) = true by
        rw [List.length_map, Nat.mul_one, Nat.beq_refl]
        simp [AV.one]]
      rfl
    rw [hA]
    unfold appendB
    cases hm : Nat.beq ys.length 0 with
    | true =>
      obtain rfl : ys = [] := List.eq_nil_of_length_eq_zero (Nat.eq_of_beq_eq_true hm)
      exact ⟨_, _, rfl, .inr ⟨p, hp, by simp, by simpa using hat⟩, Ext.refl _ _⟩
    | false =>
      have hpos : 0 < ys.length := by
        rcases Nat.eq_zero_or_pos ys.length with h0 | h0
        · rw [h0] at hm; cases hm
        · exact h0
      have hble : Nat.ble (xs.length + ys.length) xs.length = false := by
        cases hq : Nat.ble (xs.length + ys.length) xs.length with
        | false => rfl
        | true => have := Nat.le_of_ble_eq_true hq; omega
      have hg : getR h p = some (xs.map fun s => AV.lit (.string s)) := by unfold getR; rw [hat]
      have hc : cut (xs.map fun s => AV.lit (.string s)) 0 (xs.length * 1) = some (xs.map fun s => AV.lit (.string s)) := by
        unfold cut
        rw [if_pos (by rw [List.length_map]; omega), List.drop_zero, Nat.mul_one]
        rw [List.take_of_length_le (by rw [List.length_map]; exact Nat.le_refl _)]
      simp only [cond_false, hble, hg, hc]
      refine ⟨_, _, rfl, .inl ⟨(xs ++ ys).map fun s => [AV.lit (.string s)], ⟨?_, .inr ⟨h.n, by simp; rfl, hn0, ?_⟩⟩, strs_els _⟩, (Ext.refl _ _).push _ hn0⟩
      · intro c hc; obtain ⟨s, _, rfl⟩ := List.mem_map.1 hc; rfl
      · rw [at_push_n, strs_flat, List.map_append]
theorem name_ld {k : Nat} (hk : k < 4) : ([.lit (.string ⟨#[111, 115, 100]⟩), .lit (.string ⟨#[104, 111, 115, 116]⟩), .lit (.string ⟨#[114, 97, 99, 107]⟩), .lit (.string ⟨#[114, 111, 111, 116]⟩)] : List AV)[k]? = some (.lit (.string (nameF (k : Int)))) := by
  have : k = 0 ∨ k = 1 ∨ k = 2 ∨ k = 3 := by omega
  rcases this with rfl | rfl | rfl | rfl <;> rfl
theorem lines_x {m : MapD} {vo vp vb : AV} (hok : OkM m) (hg : goodF m = true) : ∀ (n : Nat) {F : Nat → Prop} {H : AH} (id w : Int) (ahead : ByteArray), 0 ≤ kindF m id → kindF m id < (n : Int) → ahead.size + 2 * n ≤ 1000 → I64 id → I64 w → MpAt F H m vo vp vb → (tellF m n id w ahead).length ≤ 1099511627776 →
    WC Tryd.prog (tabOf Tryd.prog NT0) S0 32 [mpV m vo vp vb, .lit (.string ahead), .lit (.int .i64 id), .lit (.int .i64 w)] H fun v h' => Ext H.n H h' ∧ IsSl RStr (fun b => H.n ≤ b) h' v (tellF m n id w ahead)
  | 0, F, H, id, w, ahead, h0, hk, _, _, _, _, _ => by omega
  | n + 1, F, H, id, w, ahead, h0, hk, hsz, i1, i2, hm, hlen => by
    refine WC_fn Tryd.func32 rfl rfl ?_
    obtain ⟨hl, hbs, -⟩ := _root_.id hok
    have o1 := hm.o.one
    have o2 := hm.p.one
    have o3 := hm.b.one
    have s1 := hm.o.isSl
    have s2 := hm.p.isSl
    have s3 := hm.b.isSl
    obtain ⟨kk, hkk⟩ : ∃ kk : Nat, kindF m id = (kk : Int) := ⟨(kindF m id).toNat, by omega⟩
    have hk4 : kk < 4 := by have := kind_le3' hg id; omega
    have hkG := kindG hg h0
    simp only [core, Nat.reduceAdd, Nat.reduceSub, Nat.reduceMul, Nat.reduceLT, Nat.reduceEqDiff, reduceCtorEq, Nat.reduceLeDiff, Int.reduceLE, Int.reduceLT, Int.reduceToNat, Tryd.ntmps32, mpV, o1, o2, o3]
    obtain ⟨h1, hh1⟩ : ∃ h1, h1 = (H.push (.cells [.lit (.int .i64 m.epoch), vo, vp, vb, .lit (.int .i64 m.leaf)] 26)).push (.cells [.lit (.string ⟨#[111, 115, 100]⟩), .lit (.string ⟨#[104, 111, 115, 116]⟩), .lit (.string ⟨#[114, 97, 99, 107]⟩), .lit (.string ⟨#[114, 111, 111, 116]⟩)] 60) := ⟨_, rfl⟩
    have E1 : Ext H.n H h1 := hh1 ▸ ((Ext.refl _ _).push _ (Nat.le_refl _)).push _ (by rw [n_push]; omega)
    have P1 : h1.at H.n = some (.cells [.lit (.int .i64 m.epoch), vo, vp, vb, .lit (.int .i64 m.leaf)] 26) := hh1 ▸ (at_push_lt _ (by rw [n_push]; omega)).trans (at_push_n _ _)
    have N1 : h1.at (H.n + 1) = some (.cells [.lit (.string ⟨#[111, 115, 100]⟩), .lit (.string ⟨#[104, 111, 115, 116]⟩), .lit (.string ⟨#[114, 97, 99, 107]⟩), .lit (.string ⟨#[114, 111, 111, 116]⟩)] 60) := hh1 ▸ at_push_n _ _
    have n1 : h1.n = H.n + 2 := by rw [hh1, n_push, n_push]
    rw [← hh1]
    clear hh1
    have lp1 := at_lt P1
    have LP1 := ld_at (T := tabOf Tryd.prog NT0) P1
    rw [WB_regionD [0, 1, 2, 8, 12, 3, 4, 5, 6, 7, 9, 10, 11, 13, 14, 15, 16] 497317544946356985275480239388513488742508430155810364376053799791232568111206594772992 (by kernel_rfl)]
    repeat ((with_reducible refine WDM_cons ?_; simp only [dw1]; try simp only [dw2, Nat.reduceAdd, Nat.reduceMul, Nat.reduceShiftRight, Nat.reduceMod, Nat.reduceEqDiff]); simp only [core, Nat.reduceAdd, Nat.reduceSub, Nat.reduceMul, Nat.reduceLT, Nat.reduceEqDiff, reduceCtorEq, Nat.reduceLeDiff, Int.reduceLE, Int.reduceLT, Int.reduceToNat, cored, LP1, lp1, o1, o2, o3, s1, s2, s3])
    refine (kind_x id (hm.ext E1 (Nat.le_refl _)) hl).mono ?_
    rintro _ h2 ⟨e2, rfl⟩
    have E2 := E1.step e2
    have P2 := (e2.2 _ lp1).trans P1
    have N2 := (e2.2 _ (at_lt N1)).trans N1
    have ln2 := at_lt N2
    have LN2 := ld_at (T := tabOf Tryd.prog NT0) N2
    have hnm := name_ld hk4
    have hk0 : (0 : Int) ≤ (kk : Int) := by omega
    rw [hkk]
    have z1 := itoaB_size i1
    have z2 := itoaB_size i2
    have z3 := nameF_size (kk : Int)
    have a1 : ∀ T : Program, pur T (binOp .add 9 (Value.string ahead) (Value.string (nameF (kk : Int)))) = some (.ok (Value.string (ahead ++ nameF (kk : Int)))) := fun _ => pur_sadd (by omega)
    have a2 : ∀ T : Program, pur T (binOp .add 9 (Value.string (ahead ++ nameF (kk : Int))) (Value.string ⟨#[32]⟩)) = some (.ok (Value.string (ahead ++ nameF (kk : Int) ++ ⟨#[32]⟩))) := fun _ => pur_sadd (by rw [str_size]; show _ + 1 ≤ _; omega)
    have a3 : ∀ T : Program, pur T (binOp .add 9 (Value.string (ahead ++ nameF (kk : Int) ++ ⟨#[32]⟩)) (Value.string (itoaB id))) = some (.ok (Value.string (ahead ++ nameF (kk : Int) ++ ⟨#[32]⟩ ++ itoaB id))) := fun _ => pur_sadd (by rw [str_size, str_size]; show _ + 1 + _ ≤ _; omega)
    have a4 : ∀ T : Program, pur T (binOp .add 9 (Value.string (ahead ++ nameF (kk : Int) ++ ⟨#[32]⟩ ++ itoaB id)) (Value.string ⟨#[32]⟩)) = some (.ok (Value.string (ahead ++ nameF (kk : Int) ++ ⟨#[32]⟩ ++ itoaB id ++ ⟨#[32]⟩))) := fun _ => pur_sadd (by rw [str_size, str_size, str_size]; show _ + 1 + _ + 1 ≤ _; omega)
    have a5 : ∀ T : Program, pur T (binOp .add 9 (Value.string (ahead ++ nameF (kk : Int) ++ ⟨#[32]⟩ ++ itoaB id ++ ⟨#[32]⟩)) (Value.string (itoaB w))) = some (.ok (Value.string (lineF ahead (kk : Int) id w))) := fun _ => pur_sadd (by rw [str_size, str_size, str_size, str_size]; show _ + 1 + _ + 1 + _ ≤ _; omega)
    repeat ((with_reducible refine WDM_cons ?_; simp only [dw1]; try simp only [dw2, Nat.reduceAdd, Nat.reduceMul, Nat.reduceShiftRight, Nat.reduceMod, Nat.reduceEqDiff]); simp only [core, Nat.reduceAdd, Nat.reduceSub, Nat.reduceMul, Nat.reduceLT, Nat.reduceEqDiff, reduceCtorEq, Nat.reduceLeDiff, Int.reduceLE, Int.reduceLT, Int.reduceToNat, cored, LN2, ln2, hk4, hk0, hnm, a1, a2, ofPV_str, o1, o2, o3])
    refine (text_x id i1).mono ?_
    rintro _ h3 ⟨e3, rfl⟩
    have E3 := E2.step e3
    have N3 := (e3.2 _ ln2).trans N2
    have ln3 := at_lt N3
    have LN3 := ld_at (T := tabOf Tryd.prog NT0) N3
    repeat ((with_reducible refine WDM_cons ?_; simp only [dw1]; try simp only [dw2, Nat.reduceAdd, Nat.reduceMul, Nat.reduceShiftRight, Nat.reduceMod, Nat.reduceEqDiff]); simp only [core, Nat.reduceAdd, Nat.reduceSub, Nat.reduceMul, Nat.reduceLT, Nat.reduceEqDiff, reduceCtorEq, Nat.reduceLeDiff, Int.reduceLE, Int.reduceLT, Int.reduceToNat, cored, LN3, ln3, hnm, a3, a4, ofPV_str, o1, o2, o3])
    refine (text_x w i2).mono ?_
    rintro _ h4 ⟨e4, rfl⟩
    have E4 := E3.step e4
    have P4 := (e4.2 _ (at_lt ((e3.2 _ (at_lt P2)).trans P2))).trans ((e3.2 _ (at_lt P2)).trans P2)
    have lp4 := at_lt P4
    have LP4 := ld_at (T := tabOf Tryd.prog NT0) P4
    have N4 := (e4.2 _ ln3).trans N3
    have ln4 := at_lt N4
    have LN4 := ld_at (T := tabOf Tryd.prog NT0) N4
    repeat ((with_reducible refine WDM_cons ?_; simp only [dw1]; try simp only [dw2, Nat.reduceAdd, Nat.reduceMul, Nat.reduceShiftRight, Nat.reduceMod, Nat.reduceEqDiff]); simp only [core, Nat.reduceAdd, Nat.reduceSub, Nat.reduceMul, Nat.reduceLT, Nat.reduceEqDiff, reduceCtorEq, Nat.reduceLeDiff, Int.reduceLE, Int.reduceLT, Int.reduceToNat, cored, LN4, ln4, hnm, a5, ofPV_str, LP4, lp4, o1, o2, o3])
    obtain ⟨h5, hh5⟩ : ∃ h5, h5 = h4.push (.cells [.lit (.string (lineF ahead (kk : Int) id w))] 9) := ⟨_, rfl⟩
    have e5 : Ext h4.n h4 h5 := hh5 ▸ (Ext.refl _ _).push _ (Nat.le_refl _)
    have A5 : h5.at h4.n = some (.cells [.lit (.string (lineF ahead (kk : Int) id w))] 9) := hh5 ▸ at_push_n _ _
    rw [← hh5]
    clear hh5
    have E5 := E4.step e5
    have P5 := (e5.2 _ lp4).trans P4
    have lp5 := at_lt P5
    have LP5 := ld_at (T := tabOf Tryd.prog NT0) P5
    have hTE : (tellF m (n + 1) id w ahead) = lineF ahead (kk : Int) id w :: upto (fun k => tellF m n ((bucketG m id).items.getD k 0) ((bucketG m id).weights.getD k 0) (ahead ++ ⟨#[32, 32]⟩)) (bucketG m id).items.length := by rw [tellF, hkG, hkk]
    rw [hTE] at hlen ⊢
    have hn4 := E4.1
    have hn45 := e5.1
    have hd5 : ∀ n0, DnS n0 h1.n h5 (.sl h4.n 0 1 (.kn 1)) [lineF ahead (kk : Int) id w] := fun n0 => .inr ⟨h4.n, (by have := e2.1; have := e3.1; have := e4.1; omega), rfl, A5⟩
    refine (bucketR_x id (hm.ext E5 (Nat.le_refl _)) hl).mono ?_
    rintro _ h6 ⟨e6, va, vw, rfl, b1, b2⟩
    have E6 := E5.step e6
    have q1 := b1.one
    have q2 := b2.one
    have hd6 := fun n0 => (hd5 n0).ext e6 (Nat.le_refl _)
    cases hx : bucketF m id with
    | none =>
      have hG : bucketG m id = bkt0 := by unfold bucketG; rw [hx]; rfl
      simp only [core, Nat.reduceAdd, Nat.reduceSub, Nat.reduceMul, Nat.reduceLT, Nat.reduceEqDiff, reduceCtorEq, Nat.reduceLeDiff, Int.reduceLE, Int.reduceLT, Int.reduceToNat, bktV, q1, q2, Option.isSome_none]
      refine ⟨E6.push _ E6.1, ?_⟩
      rw [hG]
      exact ((hd6 h1.n).ext ((Ext.refl _ _).push _ (Nat.le_refl _)) (Nat.le_refl _)).toSl (Nat.le_refl _) fun b hb => by have := E1.1; omega
    | some bk =>
    have hG : bucketG m id = bk := by unfold bucketG; rw [hx]; rfl
    rw [hG] at b1 b2
    obtain ⟨ff, hff⟩ : ∃ ff, ff = fun k => tellF m n (bk.items.getD k 0) (bk.weights.getD k 0) (ahead ++ ⟨#[32, 32]⟩) := ⟨_, rfl⟩
    rw [hG, ← hff] at hlen
    have hGoal : upto (fun k => tellF m n ((bucketG m id).items.getD k 0) ((bucketG m id).weights.getD k 0) (ahead ++ ⟨#[32, 32]⟩)) (bucketG m id).items.length = upto ff bk.items.length := by rw [hG, hff]
    rw [hGoal]
    obtain ⟨u1, u2, u3, u4, u5, u6, u7, u8⟩ := good_bkt hg hx
    obtain ⟨w1, w2⟩ := hbs bk u1
    unfold Sm at w1
    have d1 := b1.isSl
    have d2 := b1.lenD
    have d3 := b2.isSl
    have d4 := b2.lenD
    simp only [core, Nat.reduceAdd, Nat.reduceSub, Nat.reduceMul, Nat.reduceLT, Nat.reduceEqDiff, reduceCtorEq, Nat.reduceLeDiff, Int.reduceLE, Int.reduceLT, Int.reduceToNat, bktV, q1, q2, hG, Option.isSome_some, d1, d2]
    obtain ⟨h7, hh7⟩ : ∃ h7, h7 = h6.push (.cells [.lit (.int .i64 bk.id), .lit (.int .i64 bk.kind), va, vw] 47) := ⟨_, rfl⟩
    have e7 : Ext h6.n h6 h7 := hh7 ▸ (Ext.refl _ _).push _ (Nat.le_refl _)
    have B7 : h7.at h6.n = some (.cells [.lit (.int .i64 bk.id), .lit (.int .i64 bk.kind), va, vw] 47) := hh7 ▸ at_push_n _ _
    rw [← hh7]
    clear hh7
    have E7 := E6.step e7
    have P7 := (e7.2 _ (by have := e6.1; omega)).trans ((e6.2 _ lp5).trans P5)
    have lp7 := at_lt P7
    have lb7 := at_lt B7
    have hd7 := (hd6 h7.n).ext e7 (Nat.le_refl _)
    have hva := b1.ext e7 (Nat.le_refl _)
    have hvw := b2.ext e7 (Nat.le_refl _)
    have hkb := kind_bkt (show id < 0 by omega) hx
    have hE7 := E7.1
    have hn67 := e7.1
    have hn12 := E1.1
    have hn17 : h1.n ≤ h7.n := by have := e2.1; have := e3.1; have := e4.1; have := e6.1; omega
    refine WB_for bk.items.length (fun i t h => (∃ s', DnS h7.n h1.n h s' (lineF ahead (kk : Int) id w :: upto ff i) ∧ t.get 10 = s') ∧ Ext h7.n h7 h ∧ t.n = 63 ∧ t.get 1 = .lit (.string ahead) ∧ t.get 4 = .ptr H.n 0 ∧ t.get 11 = .ptr h6.n 0 ∧ t.get 42 = va ∧ t.get 43 = .lit (.int .i64 bk.items.length) ∧ t.get 44 = .lit (.int .i64 i)) ?_ ?_ _ _ ?_
    · rintro i t h hlt hc ⟨⟨s', ho, g10⟩, he, hn, g1, g4, g11, g42, g43, g44⟩ ih
      have P := (he.2 _ lp7).trans P7
      have LP := ld_at (T := tabOf Tryd.prog NT0) P
      have lp := at_lt P
      have B := (he.2 _ lb7).trans B7
      have LB := ld_at (T := tabOf Tryd.prog NT0) B
      have lb := at_lt B
      have hvh := hva.ext he (Nat.le_refl _)
      have hvwh := hvw.ext he (Nat.le_refl _)
      have hlt2 : i < bk.weights.length := by omega
      have hldi := hvh.int (T := tabOf Tryd.prog NT0) (e := 3) (by kernel_rfl) (by kernel_rfl) hlt
      have hldw := hvwh.int (T := tabOf Tryd.prog NT0) (e := 3) (by kernel_rfl) (by kernel_rfl) hlt2
      have hws := wrap_succ hlt (by omega)
      obtain ⟨y1, y2⟩ := item_kindF hg hx hlt
      have a6 : ∀ T : Program, pur T (binOp .add 9 (Value.string ahead) (Value.string ⟨#[32, 32]⟩)) = some (.ok (Value.string (ahead ++ ⟨#[32, 32]⟩))) := fun _ => pur_sadd (by show _ + 2 ≤ _; omega)
      have hpre : (upto ff (i + 1)).length ≤ (upto ff bk.items.length).length := by
        obtain ⟨r, hr⟩ := upto_split ff (show i + 1 ≤ bk.items.length from hlt)
        rw [hr, List.length_append]
        omega
      have hus := upto_succ ff i
      have hfi : ff i = tellF m n (bk.items.getD i 0) (bk.weights.getD i 0) (ahead ++ ⟨#[32, 32]⟩) := by rw [hff]
      rw [hus, List.length_append] at hpre
      have v1 := (ho.toSl (F := fun _ => True) hn17 (fun _ _ => trivial)).isSl
      have v2 := (ho.toSl (F := fun _ => True) hn17 (fun _ _ => trivial)).one
      simp only [core, Nat.reduceAdd, Nat.reduceSub, Nat.reduceMul, Nat.reduceLT, Nat.reduceEqDiff, reduceCtorEq, Nat.reduceLeDiff, Int.reduceLE, Int.reduceLT, Int.reduceToNat, hn, g1, g4, g11, g42, g43, g44, hlt, hc, hldi, d1, d2]
      rw [WB_regionD [0, 1, 2, 3, 4, 5, 6, 7, 8, 9, 10, 11, 12] 374075901508242735916344243161006096429293584252928 (by kernel_rfl)]
      repeat ((with_reducible refine WDM_cons ?_; simp only [dw1]; try simp only [dw2, Nat.reduceAdd, Nat.reduceMul, Nat.reduceShiftRight, Nat.reduceMod, Nat.reduceEqDiff]); simp only [core, Nat.reduceAdd, Nat.reduceSub, Nat.reduceMul, Nat.reduceLT, Nat.reduceEqDiff, reduceCtorEq, Nat.reduceLeDiff, Int.reduceLE, Int.reduceLT, Int.reduceToNat, cored, hn, g1, g4, g11, g42, g43, g44, g10, LP, lp, LB, lb, d1, d2, d3, d4, hlt2, hldw, a6, ofPV_str, o1, o2, o3, s1, s2, s3, v1, v2])
      refine (lines_x hok hg n (bk.items.getD i 0) (bk.weights.getD i 0) (ahead ++ ⟨#[32, 32]⟩) y1 (by omega) (by rw [str_size]; show _ + 2 + _ ≤ _; omega) (b1.i64 i hlt) (b2.i64 i hlt2) (hm.ext (E7.step he) (Nat.le_refl _)) (by rw [← hfi]; rw [List.length_cons] at hlen; omega)).mono ?_
      rintro v h8 ⟨e8, hv⟩
      rw [← hfi] at hv
      have r1 := hv.isSl
      have hE8 := e8.1
      have hEh := he.1
      repeat ((with_reducible refine WDM_cons ?_; simp only [dw1]; try simp only [dw2, Nat.reduceAdd, Nat.reduceMul, Nat.reduceShiftRight, Nat.reduceMod, Nat.reduceEqDiff]); simp only [core, Nat.reduceAdd, Nat.reduceSub, Nat.reduceMul, Nat.reduceLT, Nat.reduceEqDiff, reduceCtorEq, Nat.reduceLeDiff, Int.reduceLE, Int.reduceLT, Int.reduceToNat, cored, hn, g1, g4, g11, g42, g43, g44, g10, r1])
      refine WOpD_app ((ho.ext e8 (Nat.le_refl _)).append hv (by rw [List.length_cons] at hlen ⊢; omega) (by omega)) ?_
      rintro s9 h9 ⟨ho9, e9⟩
      have v9 := (ho9.toSl (F := fun _ => True) hn17 (fun _ _ => trivial)).isSl
      repeat ((with_reducible refine WDM_cons ?_; simp only [dw1]; try simp only [dw2, Nat.reduceAdd, Nat.reduceMul, Nat.reduceShiftRight, Nat.reduceMod, Nat.reduceEqDiff]); simp only [core, Nat.reduceAdd, Nat.reduceSub, Nat.reduceMul, Nat.reduceLT, Nat.reduceEqDiff, reduceCtorEq, Nat.reduceLeDiff, Int.reduceLE, Int.reduceLT, Int.reduceToNat, cored, hn, g1, g4, g11, g42, g43, g44, g10, r1, v9, hws])
      refine ih _ _ ⟨⟨s9, by rw [hus]; exact ho9, by simp only [core, Nat.reduceAdd, Nat.reduceSub, Nat.reduceMul, Nat.reduceLT, Nat.reduceEqDiff, reduceCtorEq, Nat.reduceLeDiff, Int.reduceLE, Int.reduceLT, Int.reduceToNat, hn, g1, g4, g11, g42, g43, g44]⟩, (he.step e8).trans e9, ?_⟩
      simp only [core, Nat.reduceAdd, Nat.reduceSub, Nat.reduceMul, Nat.reduceLT, Nat.reduceEqDiff, reduceCtorEq, Nat.reduceLeDiff, Int.reduceLE, Int.reduceLT, Int.reduceToNat, hn, g1, g4, g11, g42, g43, g44]
    · rintro t h hc ⟨⟨s', ho, g10⟩, he, hn, g1, g4, g11, g42, g43, g44⟩
      simp only [core, Nat.reduceAdd, Nat.reduceSub, Nat.reduceMul, Nat.reduceLT, Nat.reduceEqDiff, reduceCtorEq, Nat.reduceLeDiff, Int.reduceLE, Int.reduceLT, Int.reduceToNat, hn, g1, g4, g11, g42, g43, g44, g10, hc]
      exact ⟨E7.step he, ho.toSl hn17 fun b hb => by omega⟩
    · refine ⟨⟨.sl h4.n 0 1 (.kn 1), hd7, by simp only [core, Nat.reduceAdd, Nat.reduceSub, Nat.reduceMul, Nat.reduceLT, Nat.reduceEqDiff, reduceCtorEq, Nat.reduceLeDiff, Int.reduceLE, Int.reduceLT, Int.reduceToNat]⟩, Ext.refl _ _, ?_⟩
      simp only [core, Nat.reduceAdd, Nat.reduceSub, Nat.reduceMul, Nat.reduceLT, Nat.reduceEqDiff, reduceCtorEq, Nat.reduceLeDiff, Int.reduceLE, Int.reduceLT, Int.reduceToNat, d1, d2]
      (repeat' apply And.intro) <;> first | rfl | trivial
end Go.Proofs.YtkgbeihcepociaaDoor.Ex
end

section

set_option linter.unusedSimpArgs false
set_option linter.unusedVariables false
set_option maxRecDepth 10000
set_option maxHeartbeats 4000000
namespace Go.Proofs.YtkgbeihcepociaaDoor.Ex
open Go
theorem treeR_x {F : Nat → Prop} {H : AH} {m : MapD} {vo vp vb : AV} (hm : MpAt F H m vo vp vb) (hok : OkM m) (hlen : (treeF m).length ≤ 1099511627776) :
    WC Tryd.prog (tabOf Tryd.prog NT0) S0 14 [mpV m vo vp vb] H fun v h' => Ext H.n H h' ∧ IsSl RStr (fun b => H.n ≤ b) h' v (treeF m) := by
  refine WC_fn Tryd.func14 rfl rfl ?_
  obtain ⟨hl, hbs, -⟩ := _root_.id hok
  have o1 := hm.o.one
  have o2 := hm.p.one
  have o3 := hm.b.one
  have s1 := hm.o.isSl
  have s2 := hm.p.isSl
  have s3 := hm.b.isSl
  simp only [core, Nat.reduceAdd, Nat.reduceSub, Nat.reduceMul, Nat.reduceLT, Nat.reduceEqDiff, reduceCtorEq, Nat.reduceLeDiff, Int.reduceLE, Int.reduceLT, Int.reduceToNat, Tryd.ntmps14, mpV, o1, o2, o3]
  obtain ⟨h1, hh1⟩ : ∃ h1, h1 = H.push (.cells [.lit (.int .i64 m.epoch), vo, vp, vb, .lit (.int .i64 m.leaf)] 26) := ⟨_, rfl⟩
  have E1 : Ext H.n H h1 := hh1 ▸ (Ext.refl _ _).push _ (Nat.le_refl _)
  have P1 : h1.at H.n = some (.cells [.lit (.int .i64 m.epoch), vo, vp, vb, .lit (.int .i64 m.leaf)] 26) := hh1 ▸ at_push_n _ _
  rw [← hh1]
  clear hh1
  have lp1 := at_lt P1
  refine (good_x (hm.ext E1 (Nat.le_refl _)) hok).mono ?_
  rintro _ h2 ⟨e2, rfl⟩
  have E2 := E1.step e2
  unfold treeF at hlen ⊢
  cases hg : goodF m with
  | false =>
    simp only [core, Nat.reduceAdd, Nat.reduceSub, Nat.reduceMul, Nat.reduceLT, Nat.reduceEqDiff, reduceCtorEq, Nat.reduceLeDiff, Int.reduceLE, Int.reduceLT, Int.reduceToNat]
    exact ⟨E2, IsSl.nil⟩
  | true =>
  rw [hg, if_pos rfl] at hlen
  have P2 := (e2.2 _ lp1).trans P1
  have lp2 := at_lt P2
  have LP2 := ld_at (T := tabOf Tryd.prog NT0) P2
  simp only [core, Nat.reduceAdd, Nat.reduceSub, Nat.reduceMul, Nat.reduceLT, Nat.reduceEqDiff, reduceCtorEq, Nat.reduceLeDiff, Int.reduceLE, Int.reduceLT, Int.reduceToNat, LP2, lp2, o1, o2, o3]
  refine (rootsR_x (hm.ext E2 (Nat.le_refl _)) hok).mono ?_
  rintro vr h4 ⟨e4, hr⟩
  have E4 := E2.step e4
  have P4 := (e4.2 _ lp2).trans P2
  have lp4 := at_lt P4
  have r1 := hr.isSl
  have r2 := hr.lenD
  have hn4 := E4.1
  have hrl : (rootsR m).length ≤ 17592186044416 := by
    have h1 := (rootsC_len hg)
    unfold Sm at hl
    omega
  simp only [core, Nat.reduceAdd, Nat.reduceSub, Nat.reduceMul, Nat.reduceLT, Nat.reduceEqDiff, reduceCtorEq, Nat.reduceLeDiff, Int.reduceLE, Int.reduceLT, Int.reduceToNat, r1, r2]
  refine WB_for (rootsR m).length (fun i t h => (∃ s', OwnL RStr (fun _ => False) h4.n h s' 9 (upto (rootLines m) i) ∧ t.get 3 = s') ∧ Ext h4.n h4 h ∧ t.n = 26 ∧ t.get 1 = .ptr H.n 0 ∧ t.get 10 = vr ∧ t.get 11 = .lit (.int .i64 (rootsR m).length) ∧ t.get 12 = .lit (.int .i64 i)) ?_ ?_ _ _ ?_
  · rintro i t h hlt hc ⟨⟨s', ho, g3⟩, he, hn, g1, g10, g11, g12⟩ ih
    have P := (he.2 _ lp4).trans P4
    have LP := ld_at (T := tabOf Tryd.prog NT0) P
    have lp := at_lt P
    have hrh := hr.ext he (Nat.le_refl _)
    have hld := hrh.int (T := tabOf Tryd.prog NT0) (e := 3) (by kernel_rfl) (by kernel_rfl) hlt
    have hws := wrap_succ hlt (by omega)
    obtain ⟨hneg, hk3⟩ := root_good hg (List.mem_of_getElem? (getD_some' 0 hlt))
    have hk0 : 0 ≤ kindF m ((rootsR m).getD i 0) := by
      obtain ⟨h1, _, h3⟩ := roots_walk hg m.buckets.length (Nat.le_refl _)
      obtain ⟨c, hc, hce⟩ := h3 _ (h1.subset (List.mem_of_getElem? (getD_some' 0 hlt)))
      have hcm := List.mem_of_mem_take hc
      have hsome : (bucketF m ((rootsR m).getD i 0)).isSome = true := by
        unfold bucketF
        rw [List.find?_isSome]
        exact ⟨c, hcm, by rw [hce]; exact beq_self_eq_true _⟩
      obtain ⟨b, hb⟩ := Option.isSome_iff_exists.1 hsome
      rw [kind_bkt hneg hb]
      obtain ⟨u1, u2, u3, u4, _⟩ := good_bkt hg hb
      omega
    have v1 := (ho.toSl (F := fun _ => True) (fun _ h => trivial) (fun _ _ => trivial)).isSl
    have hus := upto_succ (rootLines m) i
    have hfi : rootLines m i = tellF m 4 ((rootsR m).getD i 0) (weightF m ((rootsR m).getD i 0)) ⟨#[]⟩ := rfl
    have hpre : (upto (rootLines m) (i + 1)).length ≤ (upto (rootLines m) (rootsR m).length).length := by
      obtain ⟨r, hr⟩ := upto_split (rootLines m) (show i + 1 ≤ (rootsR m).length from hlt)
      rw [hr, List.length_append]
      omega
    rw [hus, List.length_append] at hpre
    simp only [core, Nat.reduceAdd, Nat.reduceSub, Nat.reduceMul, Nat.reduceLT, Nat.reduceEqDiff, reduceCtorEq, Nat.reduceLeDiff, Int.reduceLE, Int.reduceLT, Int.reduceToNat, hn, g1, g10, g11, g12, hlt, hc, hld, r1, r2]
    rw [WB_regionD [0, 1, 2, 3, 4, 5, 6, 7, 8] 1205375939117572604035072 (by kernel_rfl)]
    repeat ((with_reducible refine WDM_cons ?_; simp only [dw1]; try simp only [dw2, Nat.reduceAdd, Nat.reduceMul, Nat.reduceShiftRight, Nat.reduceMod, Nat.reduceEqDiff]); simp only [core, Nat.reduceAdd, Nat.reduceSub, Nat.reduceMul, Nat.reduceLT, Nat.reduceEqDiff, reduceCtorEq, Nat.reduceLeDiff, Int.reduceLE, Int.reduceLT, Int.reduceToNat, cored, hn, g1, g10, g11, g12, g3, LP, lp, o1, o2, o3, s1, s2, s3, v1])
    refine (weightR_x ((rootsR m).getD i 0) (hm.ext (E4.step he) (Nat.le_refl _)) hok hg hneg).mono ?_
    rintro _ h5 ⟨e5, rfl⟩
    have P5 := (e5.2 _ lp).trans P
    have lp5 := at_lt P5
    have LP5 := ld_at (T := tabOf Tryd.prog NT0) P5
    repeat ((with_reducible refine WDM_cons ?_; simp only [dw1]; try simp only [dw2, Nat.reduceAdd, Nat.reduceMul, Nat.reduceShiftRight, Nat.reduceMod, Nat.reduceEqDiff]); simp only [core, Nat.reduceAdd, Nat.reduceSub, Nat.reduceMul, Nat.reduceLT, Nat.reduceEqDiff, reduceCtorEq, Nat.reduceLeDiff, Int.reduceLE, Int.reduceLT, Int.reduceToNat, cored, hn, g1, g10, g11, g12, g3, LP5, lp5, o1, o2, o3, s1, s2, s3, v1])
    refine (lines_x hok hg 4 ((rootsR m).getD i 0) (weightF m ((rootsR m).getD i 0)) ⟨#[]⟩ hk0 (by show _ < (4 : Int); omega) (by decide) (hrh.i64 i hlt) (sumW_i64 _) (hm.ext ((E4.step he).step e5) (Nat.le_refl _)) (by rw [← hfi]; omega)).mono ?_
    rintro v h6 ⟨e6, hv⟩
    rw [← hfi] at hv
    have w1 := hv.isSl
    obtain ⟨L, q1, q2, q3, q4⟩ := hv.out
    have hn5 := e5.1
    have hn6 := e6.1
    have hnh := he.1
    repeat ((with_reducible refine WDM_cons ?_; simp only [dw1]; try simp only [dw2, Nat.reduceAdd, Nat.reduceMul, Nat.reduceShiftRight, Nat.reduceMod, Nat.reduceEqDiff]); simp only [core, Nat.reduceAdd, Nat.reduceSub, Nat.reduceMul, Nat.reduceLT, Nat.reduceEqDiff, reduceCtorEq, Nat.reduceLeDiff, Int.reduceLE, Int.reduceLT, Int.reduceToNat, cored, hn, g1, g10, g11, g12, g3, v1, w1])
    refine WOpD_app (((ho.ext e5 (Nat.le_refl _)).ext e6 (Nat.le_refl _)).append (by kernel_rfl) (by kernel_rfl) (by kernel_rfl) (zv := .lit (.string ⟨#[]⟩)) (by kernel_rfl) (by' := 16) (by kernel_rfl) rfl (by decide) (by decide) (M := L) (ys := rootLines m i) q1.src q1.len ⟨q4.1, fun j c x hc hx => q4.2 j c x hc hx⟩ (by omega) (by omega) (by omega)) ?_
    rintro s7 h7 ⟨ho7, e7, -⟩
    have v7 := (ho7.toSl (F := fun _ => True) (fun _ h => trivial) (fun _ _ => trivial)).isSl
    repeat ((with_reducible refine WDM_cons ?_; simp only [dw1]; try simp only [dw2, Nat.reduceAdd, Nat.reduceMul, Nat.reduceShiftRight, Nat.reduceMod, Nat.reduceEqDiff]); simp only [core, Nat.reduceAdd, Nat.reduceSub, Nat.reduceMul, Nat.reduceLT, Nat.reduceEqDiff, reduceCtorEq, Nat.reduceLeDiff, Int.reduceLE, Int.reduceLT, Int.reduceToNat, cored, hn, g1, g10, g11, g12, g3, v7, hws])
    refine ih _ _ ⟨⟨s7, by rw [hus]; exact ho7, by simp only [core, Nat.reduceAdd, Nat.reduceSub, Nat.reduceMul, Nat.reduceLT, Nat.reduceEqDiff, reduceCtorEq, Nat.reduceLeDiff, Int.reduceLE, Int.reduceLT, Int.reduceToNat, hn, g1, g10, g11, g12]⟩, ((he.step e5).step e6).trans e7, ?_⟩
    simp only [core, Nat.reduceAdd, Nat.reduceSub, Nat.reduceMul, Nat.reduceLT, Nat.reduceEqDiff, reduceCtorEq, Nat.reduceLeDiff, Int.reduceLE, Int.reduceLT, Int.reduceToNat, hn, g1, g10, g11, g12]
  · rintro t h hc ⟨⟨s', ho, g3⟩, he, hn, g1, g10, g11, g12⟩
    simp only [core, Nat.reduceAdd, Nat.reduceSub, Nat.reduceMul, Nat.reduceLT, Nat.reduceEqDiff, reduceCtorEq, Nat.reduceLeDiff, Int.reduceLE, Int.reduceLT, Int.reduceToNat, hn, g1, g10, g11, g12, g3, hc]
    exact ⟨E4.step he, ho.toSl (fun _ hf => hf.elim) fun b hb => by omega⟩
  · refine ⟨⟨.lit (.slice none 0 0), OwnL.nil, by simp only [core, Nat.reduceAdd, Nat.reduceSub, Nat.reduceMul, Nat.reduceLT, Nat.reduceEqDiff, reduceCtorEq, Nat.reduceLeDiff, Int.reduceLE, Int.reduceLT, Int.reduceToNat]⟩, Ext.refl _ _, ?_⟩
    simp only [core, Nat.reduceAdd, Nat.reduceSub, Nat.reduceMul, Nat.reduceLT, Nat.reduceEqDiff, reduceCtorEq, Nat.reduceLeDiff, Int.reduceLE, Int.reduceLT, Int.reduceToNat, r1, r2]
    (repeat' apply And.intro) <;> first | rfl | trivial
theorem texts_x {F G : Nat → Prop} {H : AH} {u v : AV} {xs : List ByteArray} (hu : IsSl RStr F H u xs) (hv : IsSl RStr G H v xs) (hl : xs.length < 2 ^ 62) :
    WC Tryd.prog (tabOf Tryd.prog NT0) S0 12 [u, v] H fun r h' => h' = H ∧ r = .lit (.bool true) := by
  refine WC_fn Tryd.func12 rfl rfl ?_
  have s1 := hu.isSl
  have s2 := hu.lenD
  have t1 := hv.isSl
  have t2 := hv.lenD
  have hne : ((xs.length : Int) != (xs.length : Int)) = false := bne_self_eq_false _
  simp only [core, Nat.reduceAdd, Nat.reduceSub, Nat.reduceMul, Nat.reduceLT, Nat.reduceEqDiff, reduceCtorEq, Nat.reduceLeDiff, Int.reduceLE, Int.reduceLT, Int.reduceToNat, Tryd.ntmps12, s1, s2, t1, t2, hne]
  refine WB_for xs.length (fun i t h => h = H ∧ t.n = 26 ∧ t.get 0 = u ∧ t.get 1 = v ∧ t.get 12 = .lit (.int .i64 xs.length) ∧ t.get 13 = .lit (.int .i64 i)) ?_ ?_ _ _ ?_
  · rintro i t h hlt hc ⟨rfl, hn, g0, g1, g12, g13⟩ ih
    obtain ⟨x, hx⟩ : ∃ x, xs[i]? = some x := ⟨_, List.getElem?_eq_getElem hlt⟩
    have hws := wrap_succ hlt (by omega)
    obtain ⟨c, hc1, hd, hd0⟩ := hu.at (T := tabOf Tryd.prog NT0) (z := 1) rfl hx
    obtain ⟨c', hc2, hd', hd0'⟩ := hv.at (T := tabOf Tryd.prog NT0) (z := 1) rfl hx
    have hce : c = [.lit (.string x)] := hc1
    have hce' : c' = [.lit (.string x)] := hc2
    subst hce hce'
    have hld : ldL (tabOf Tryd.prog NT0) 9 [.lit (.string x)] 0 = some (.lit (.string x)) := by
      have hA : isAggT (tabOf Tryd.prog NT0) 9 = some false := by kernel_rfl
      have hS : sizeT (tabOf Tryd.prog NT0) 9 = some 1 := by kernel_rfl
      unfold ldL
      rw [hA, hS]
      rfl
    have w1 : loadA (tabOf Tryd.prog NT0) h 9 (slB u) (slO u + i) = some (.lit (.string x)) := by
      have := hd0 9 1 (by kernel_rfl) (by decide) (by decide)
      rw [Nat.mul_one, hld] at this
      exact this
    have w2 : loadA (tabOf Tryd.prog NT0) h 9 (slB v) (slO v + i) = some (.lit (.string x)) := by
      have := hd0' 9 1 (by kernel_rfl) (by decide) (by decide)
      rw [Nat.mul_one, hld] at this
      exact this
    have hse : ∀ (P : Program) (t : TypeId), pur P (binOp .neq t (Value.string x) (Value.string x)) = some (.ok (Value.bool false)) := fun P t => by
      show pur P (pure (Value.bool !(x.toList == x.toList))) = _
      rw [beq_self_eq_true]
      rfl
    have hsm : AV.same 8 (.lit (.string x)) (.lit (.string x)) = true := same_str
    simp only [core, Nat.reduceAdd, Nat.reduceSub, Nat.reduceMul, Nat.reduceLT, Nat.reduceEqDiff, reduceCtorEq, Nat.reduceLeDiff, Int.reduceLE, Int.reduceLT, Int.reduceToNat, hn, g0, g1, g12, g13, hlt, hc]
    rw [WB_regionD [0, 1, 2, 3, 4, 5, 6, 7, 8] 1205237335491016659828736 (by kernel_rfl)]
    repeat ((with_reducible refine WDM_cons ?_; simp only [dw1]; try simp only [dw2, Nat.reduceAdd, Nat.reduceMul, Nat.reduceShiftRight, Nat.reduceMod, Nat.reduceEqDiff]); simp only [core, Nat.reduceAdd, Nat.reduceSub, Nat.reduceMul, Nat.reduceLT, Nat.reduceEqDiff, reduceCtorEq, Nat.reduceLeDiff, Int.reduceLE, Int.reduceLT, Int.reduceToNat, cored, hn, g0, g1, g12, g13, s1, s2, t1, t2, hlt, w1, w2, hse, hsm, hws])
    refine ih _ _ ⟨rfl, ?_⟩
    simp only [core, Nat.reduceAdd, Nat.reduceSub, Nat.reduceMul, Nat.reduceLT, Nat.reduceEqDiff, reduceCtorEq, Nat.reduceLeDiff, Int.reduceLE, Int.reduceLT, Int.reduceToNat, hn, g0, g1, g12, g13]
  · rintro t h hc ⟨rfl, hn, g0, g1, g12, g13⟩
    simp only [core, Nat.reduceAdd, Nat.reduceSub, Nat.reduceMul, Nat.reduceLT, Nat.reduceEqDiff, reduceCtorEq, Nat.reduceLeDiff, Int.reduceLE, Int.reduceLT, Int.reduceToNat, hn, g0, g1, g12, g13, hc]
  · refine ⟨rfl, ?_⟩
    simp only [core, Nat.reduceAdd, Nat.reduceSub, Nat.reduceMul, Nat.reduceLT, Nat.reduceEqDiff, reduceCtorEq, Nat.reduceLeDiff, Int.reduceLE, Int.reduceLT, Int.reduceToNat, s1, s2]
    (repeat' apply And.intro) <;> first | rfl | trivial
/-! How many lines there are. -/
theorem upto_len {f : Nat → List ByteArray} {B : Nat} : ∀ {n : Nat}, (∀ i, i < n → (f i).length ≤ B) → (upto f n).length ≤ n * B
  | 0, _ => by simp [upto]
  | n + 1, h => by
    rw [upto_succ, List.length_append, Nat.succ_mul]
    have h1 := upto_len (n := n) fun i hi => h i (by omega)
    have h2 := h n (by omega)
    omega
theorem items_len {m : MapD} (hg : goodF m = true) (hb : m.buckets.length ≤ 40) (id : Int) : (bucketG m id).items.length ≤ 48 := by
  cases hx : bucketF m id with
  | none => rw [show bucketG m id = bkt0 by unfold bucketG; rw [hx]; rfl]; decide
  | some b =>
    rw [show bucketG m id = b by unfold bucketG; rw [hx]; rfl]
    obtain ⟨u1, -⟩ := good_bkt hg hx
    obtain ⟨j, hj⟩ := List.mem_iff_getElem?.1 u1
    have hjl := (List.getElem?_eq_some_iff.1 hj).1
    unfold goodF at hg
    simp only [Bool.and_eq_true] at hg
    have hall := hg.2
    have h1 := List.all_eq_true.1 hall j (List.mem_range.2 hjl)
    rw [getD_of hj] at h1
    unfold bOk at h1
    simp only [Bool.and_eq_true] at h1
    have hpre : (List.range j).all (fun i => bOk m i (m.buckets.getD i bkt0)) = true := by
      rw [List.all_eq_true]
      intro i hi
      exact List.all_eq_true.1 hall i (List.mem_range.2 (by have := List.mem_range.1 hi; omega))
    have h2 := its_item (its_bkts j (by omega) hpre) b.items.length (Nat.le_refl _) h1.2
    have h3 := its_len h2
    rw [List.length_append, List.take_length] at h3
    omega
theorem tell_len {m : MapD} (hg : goodF m = true) (hb : m.buckets.length ≤ 40) : ∀ (n : Nat) (id w : Int) (ahead : ByteArray), (tellF m n id w ahead).length ≤ 49 ^ n
  | 0, _, _, _ => by simp [tellF]
  | n + 1, id, w, ahead => by
    rw [tellF, List.length_cons]
    have h1 := upto_len (f := fun k => tellF m n ((bucketG m id).items.getD k 0) ((bucketG m id).weights.getD k 0) (ahead ++ ⟨#[32, 32]⟩)) (B := 49 ^ n) (n := (bucketG m id).items.length) fun i _ => tell_len hg hb n _ _ _
    have h2 := items_len hg hb id
    have h3 : (bucketG m id).items.length * 49 ^ n ≤ 48 * 49 ^ n := Nat.mul_le_mul_right _ h2
    have h4 : 1 ≤ 49 ^ n := Nat.one_le_pow _ _ (by decide)
    rw [Nat.pow_succ]
    omega
theorem tree_len {m : MapD} (hb : m.buckets.length ≤ 40) : (treeF m).length ≤ 1099511627776 := by
  unfold treeF
  split
  · rename_i hg
    have h1 := upto_len (f := rootLines m) (B := 49 ^ 4) (n := (rootsR m).length) fun i _ => tell_len hg hb 4 _ _ _
    have h2 := rootsC_len hg
    have h3 : (rootsR m).length * 49 ^ 4 ≤ 40 * 49 ^ 4 := Nat.mul_le_mul_right _ (by omega)
    have h4 : 40 * 49 ^ 4 ≤ 1099511627776 := by decide
    omega
  · exact Nat.zero_le _
end Go.Proofs.YtkgbeihcepociaaDoor.Ex
end

section

set_option linter.unusedSimpArgs false
set_option linter.unusedVariables false
set_option maxRecDepth 10000
set_option maxHeartbeats 4000000
namespace Go.Proofs.YtkgbeihcepociaaDoor.Ex
open Go
theorem crushTrees_m {F : Nat → Prop} {H : AH} {m : MapD} {vo vp vb : AV} {e : TypeId} (hm : MpAt F H m vo vp vb) (hF : ∀ b, F b → b < H.n) (hok : OkM m) (hT : H.at 1 = some (.frz tabL e)) :
    WC Tryd.prog (tabOf Tryd.prog NT0) S0 4 [mpV m vo vp vb] H fun r h' => r = .lit (.bool true) := by
  refine WC_fn Tryd.func4 rfl rfl ?_
  have lt := at_lt hT
  have o1 := hm.o.one
  have o2 := hm.p.one
  have o3 := hm.b.one
  have i1 := hm.o.isSl
  have i2 := hm.p.isSl
  have i3 := hm.b.isSl
  simp only [core, Nat.reduceAdd, Nat.reduceSub, Nat.reduceMul, Nat.reduceLT, Nat.reduceEqDiff, reduceCtorEq, Nat.reduceLeDiff, Int.reduceLE, Int.reduceLT, Int.reduceToNat, Tryd.ntmps4, mpV, o1, o2, o3]
  obtain ⟨h1, hh1⟩ : ∃ h1, h1 = H.push (.cells [.lit (.int .i64 m.epoch), vo, vp, vb, .lit (.int .i64 m.leaf)] 26) := ⟨_, rfl⟩
  have E1 : Ext H.n H h1 := hh1 ▸ (Ext.refl _ _).push _ (Nat.le_refl _)
  have P1 : h1.at H.n = some (.cells [.lit (.int .i64 m.epoch), vo, vp, vb, .lit (.int .i64 m.leaf)] 26) := hh1 ▸ at_push_n _ _
  rw [← hh1]
  clear hh1
  have lp1 := at_lt P1
  refine (wide8_x (hm.ext E1 (Nat.le_refl _)) hok).mono ?_
  rintro _ h2 ⟨e2, b, rfl, hb⟩
  have E2 := E1.step e2
  have P2 := (e2.2 _ lp1).trans P1
  have lp2 := at_lt P2
  have LP2 := ld_at (T := tabOf Tryd.prog NT0) P2
  have T2 := (E2.2 _ lt).trans hT
  cases b with
  | true =>
    simp only [core, Nat.reduceAdd, Nat.reduceSub, Nat.reduceMul, Nat.reduceLT, Nat.reduceEqDiff, reduceCtorEq, Nat.reduceLeDiff, Int.reduceLE, Int.reduceLT, Int.reduceToNat]
    refine (awake8_x T2).mono ?_
    rintro _ h3 ⟨e3, rfl⟩
    simp only [core, Nat.reduceAdd, Nat.reduceSub, Nat.reduceMul, Nat.reduceLT, Nat.reduceEqDiff, reduceCtorEq, Nat.reduceLeDiff, Int.reduceLE, Int.reduceLT, Int.reduceToNat]
  | false =>
  simp only [core, Nat.reduceAdd, Nat.reduceSub, Nat.reduceMul, Nat.reduceLT, Nat.reduceEqDiff, reduceCtorEq, Nat.reduceLeDiff, Int.reduceLE, Int.reduceLT, Int.reduceToNat]
  rw [WB_regionD [0, 2, 1, 3, 4, 5, 6, 7, 8] 1205375957379293449814528 (by kernel_rfl)]
  repeat ((with_reducible refine WDM_cons ?_; simp only [dw1]; try simp only [dw2, Nat.reduceAdd, Nat.reduceMul, Nat.reduceShiftRight, Nat.reduceMod, Nat.reduceEqDiff]); simp only [core, Nat.reduceAdd, Nat.reduceSub, Nat.reduceMul, Nat.reduceLT, Nat.reduceEqDiff, reduceCtorEq, Nat.reduceLeDiff, Int.reduceLE, Int.reduceLT, Int.reduceToNat, cored, LP2, lp2, o1, o2, o3, i1, i2, i3])
  have hlen := tree_len (hb rfl)
  have hE2 := E2.1
  refine (tree_x (hm.ext E2 (Nat.le_refl _)) (fun b hb => by have := hF b hb; omega) hok T2 hlen).mono ?_
  rintro v1 h3 ⟨e3, hv1⟩
  have E3 := E2.step e3
  have P3 := (e3.2 _ lp2).trans P2
  have lp3 := at_lt P3
  have LP3 := ld_at (T := tabOf Tryd.prog NT0) P3
  have w1 := hv1.isSl
  repeat ((with_reducible refine WDM_cons ?_; simp only [dw1]; try simp only [dw2, Nat.reduceAdd, Nat.reduceMul, Nat.reduceShiftRight, Nat.reduceMod, Nat.reduceEqDiff]); simp only [core, Nat.reduceAdd, Nat.reduceSub, Nat.reduceMul, Nat.reduceLT, Nat.reduceEqDiff, reduceCtorEq, Nat.reduceLeDiff, Int.reduceLE, Int.reduceLT, Int.reduceToNat, cored, LP3, lp3, o1, o2, o3, i1, i2, i3, w1])
  refine (treeR_x (hm.ext E3 (Nat.le_refl _)) hok hlen).mono ?_
  rintro v2 h4 ⟨e4, hv2⟩
  have E4 := E3.step e4
  have w2 := hv2.isSl
  repeat ((with_reducible refine WDM_cons ?_; simp only [dw1]; try simp only [dw2, Nat.reduceAdd, Nat.reduceMul, Nat.reduceShiftRight, Nat.reduceMod, Nat.reduceEqDiff]); simp only [core, Nat.reduceAdd, Nat.reduceSub, Nat.reduceMul, Nat.reduceLT, Nat.reduceEqDiff, reduceCtorEq, Nat.reduceLeDiff, Int.reduceLE, Int.reduceLT, Int.reduceToNat, cored, o1, o2, o3, w1, w2])
  refine (texts_x (hv1.ext e4 (Nat.le_refl _)) hv2 (by omega)).mono ?_
  rintro _ h5 ⟨rfl, rfl⟩
  repeat ((with_reducible refine WDM_cons ?_; simp only [dw1]; try simp only [dw2, Nat.reduceAdd, Nat.reduceMul, Nat.reduceShiftRight, Nat.reduceMod, Nat.reduceEqDiff]); simp only [core, Nat.reduceAdd, Nat.reduceSub, Nat.reduceMul, Nat.reduceLT, Nat.reduceEqDiff, reduceCtorEq, Nat.reduceLeDiff, Int.reduceLE, Int.reduceLT, Int.reduceToNat, cored])
  refine (awake8_x ((E4.2 _ lt).trans hT)).mono ?_
  rintro _ h6 ⟨e6, rfl⟩
  repeat ((with_reducible refine WDM_cons ?_; simp only [dw1]; try simp only [dw2, Nat.reduceAdd, Nat.reduceMul, Nat.reduceShiftRight, Nat.reduceMod, Nat.reduceEqDiff]); simp only [core, Nat.reduceAdd, Nat.reduceSub, Nat.reduceMul, Nat.reduceLT, Nat.reduceEqDiff, reduceCtorEq, Nat.reduceLeDiff, Int.reduceLE, Int.reduceLT, Int.reduceToNat, cored])
end Go.Proofs.YtkgbeihcepociaaDoor.Ex
namespace Go.Proofs.YtkgbeihcepociaaDoor
open Go.RowKit Go.ChangeShapes Go.WideShapes Go.ChangeAt
set_option maxRecDepth 100000 in
theorem crushTrees_walk {H : Type} {enc : TypeId × Value → H} {W : World} (htab : Lib.TabIs Tryd.prog W "internal/strconv.uint64pow10" .u64 Lib.pow10Tab) {base : Nat} {v0 : Value} {d0 : DataW H} {p0 : List MemPlace}
    (k0 : Value.okWide Tryd.prog W .any base 26 v0) (h0 : DataW.Trod enc Tryd.prog W 0 (fun _ => true) true 26 v0 d0 p0)
    {ts : List TypeId} {ds : List (DataW H)} (hsz : (DataW.weightsEach Tryd.prog ([26] ++ ts) ([d0] ++ ds)).all (· ≤ reachBytes) = true) :
    Calls Tryd.prog 4 #[v0] W fun e w' => e = .returned (.bool true) ∧ Below W.heap.size W w' := by
  obtain ⟨c0, a, r0, i0, ok0⟩ := Ex.open_agg (ρ := Ex.ρT) Ex.opensA_Mp Tryd.underlying26 rfl k0 h0 (weights_le hsz (j := 0) rfl rfl)
  obtain ⟨ao, ap, ab, rfl, a1, a2, a3, -⟩ := Ex.RMp_is.1 i0
  exact Ex.law_joinT htab (Ex.rels_cons r0 Ex.rels_nil) fun e hT => Ex.crushTrees_m ⟨a1, a2, a3⟩ (fun b hb => hb) (Ex.OkMp.okM ok0) hT
end Go.Proofs.YtkgbeihcepociaaDoor
end
