/- Part 13 of the proof: Psm, Jn, PlaceSameWalk. -/
import Derived.Test.YtkgbeihcepociaaM12
section
/- Same: both sides; the law PlaceSame in the machine. -/
set_option linter.unusedSimpArgs false
set_option linter.unusedVariables false
set_option maxRecDepth 10000
set_option maxHeartbeats 4000000
namespace Go.Proofs.Ytkgbeihcepociaa.Ex
open Go
theorem OkMp.okM {m : MapD} (h : OkMp m) : OkM m := ⟨h.2.2.1, h.2.2.2, trivial⟩
def sameF (a b : MapD) (pool seed : Int) : Bool := (actF a pool seed == actF b pool seed) && (bootF a (actF a pool seed) == bootF b (actF b pool seed))

theorem ints_x {F G : Nat → Prop} {H : AH} {u v : AV} {xs ys : List Int} (hu : IsSl RInt F H u xs) (hv : IsSl RInt G H v ys) (hl : xs.length < 2 ^ 62) :
    WC Try.prog (tabOf Try.prog NT0) S0 40 [u, v] H fun r h' => h' = H ∧ r = .lit (.bool (xs == ys)) := by
  refine WC_fn Try.func40 rfl rfl ?_
  have s1 := hu.isSl
  have s2 := hu.lenD
  have s3 := hv.isSl
  have s4 := hv.lenD
  simp only [core, WB_cond_s, put, ldL, WB_label, List.nil_append, List.drop_zero, List.take_zero, Nat.reduceAdd, Nat.reduceSub, Nat.reduceMul, Nat.reduceLT, Nat.reduceEqDiff, reduceCtorEq, Nat.reduceLeDiff, Int.reduceLE, Int.reduceLT, Int.reduceToNat, Try.ntmps40, s1, s2, s3, s4]
  refine ⟨fun he => ?_, fun he => ?_⟩
  · have : ¬ xs = ys := fun hh => by subst hh; simp at he
    congr 2
    simpa using this
  · have he : xs.length = ys.length := by simp at he; omega
    refine WB_for xs.length (fun i t h => h = H ∧ (xs.take i = ys.take i) ∧ t.n = 26 ∧ t.get 0 = u ∧ t.get 1 = v ∧ t.get 12 = .lit (.int .i64 xs.length) ∧ t.get 13 = .lit (.int .i64 i)) ?_ ?_ _ _ ?_
    · rintro i t h hlt hc ⟨rfl, hx, hn, g0, g1, g12, g13⟩ ih
      have hlt2 : i < ys.length := by omega
      have hld := hu.int (T := tabOf Try.prog NT0) (e := 3) (by kernel_rfl) (by kernel_rfl) hlt
      have hld2 := hv.int (T := tabOf Try.prog NT0) (e := 3) (by kernel_rfl) (by kernel_rfl) hlt2
      have hw := wrap_succ hlt (by omega)
      simp only [core, WB_cond_s, put, ldL, WB_label, List.nil_append, List.drop_zero, List.take_zero, Nat.reduceAdd, Nat.reduceSub, Nat.reduceMul, Nat.reduceLT, Nat.reduceEqDiff, reduceCtorEq, Nat.reduceLeDiff, Int.reduceLE, Int.reduceLT, Int.reduceToNat, s1, s2, s3, s4, hn, g0, g1, g12, g13, hlt, hlt2, hc, hld, hw]
      rw [WB_regionD [0, 1, 2, 3, 4, 5, 6, 7, 8] 1205237335491016659828736 (by kernel_rfl)]
      repeat ((with_reducible refine WDM_cons ?_; simp only [List.getElem?_toArray, List.getElem?_cons_zero, List.getElem?_cons_succ, WRegDO, kindOf]; try simp only [dropR_nil, dropR_cons, List.size_toArray, List.length_cons, List.length_nil, Nat.reduceAdd, waits_eq, Nat.reduceMul, Nat.zero_add, Nat.reduceShiftRight, Nat.reduceMod, Nat.reduceEqDiff, Nat.zero_ne_one, decide_true, decide_false, cond_true, cond_false]); simp only [core, WB_cond_s, put, ldL, WB_label, List.nil_append, List.drop_zero, List.take_zero, Nat.reduceAdd, Nat.reduceSub, Nat.reduceMul, Nat.reduceLT, Nat.reduceEqDiff, reduceCtorEq, Nat.reduceLeDiff, Int.reduceLE, Int.reduceLT, Int.reduceToNat, cored, s1, s2, s3, s4, hn, g0, g1, g12, g13, hlt, hlt2, hc, hld, hld2, hw])
      have e1 : xs.getD i 0 = xs[i] := by simp [List.getD_eq_getElem?_getD, List.getElem?_eq_getElem hlt]
      have e2 : ys.getD i 0 = ys[i] := by simp [List.getD_eq_getElem?_getD, List.getElem?_eq_getElem hlt2]
      refine ⟨fun hq => ?_, fun hq => ?_⟩
      · have hq : ¬ xs.getD i 0 = ys.getD i 0 := by simpa using hq
        have : ¬ xs = ys := fun hh => by subst hh; exact hq rfl
        congr 2
        simpa using this
      · have hq : xs.getD i 0 = ys.getD i 0 := by simpa using hq
        refine ih _ _ ?_
        simp only [core, WB_cond_s, put, ldL, WB_label, List.nil_append, List.drop_zero, List.take_zero, Nat.reduceAdd, Nat.reduceSub, Nat.reduceMul, Nat.reduceLT, Nat.reduceEqDiff, reduceCtorEq, Nat.reduceLeDiff, Int.reduceLE, Int.reduceLT, Int.reduceToNat, hn, g0, g1, g12, g13]
        rw [List.take_succ_eq_append_getElem hlt, List.take_succ_eq_append_getElem hlt2, hx, ← e1, ← e2, hq]
    · rintro t h hc ⟨rfl, hx, hn, g0, g1, g12, g13⟩
      simp only [core, WB_cond_s, put, ldL, WB_label, List.nil_append, List.drop_zero, List.take_zero, Nat.reduceAdd, Nat.reduceSub, Nat.reduceMul, Nat.reduceLT, Nat.reduceEqDiff, reduceCtorEq, Nat.reduceLeDiff, Int.reduceLE, Int.reduceLT, Int.reduceToNat, s1, s2, hn, g0, g1, g12, g13, hc]
      rw [List.take_length, he, List.take_length] at hx
      simp [hx]
    · simp only [core, WB_cond_s, put, ldL, WB_label, List.nil_append, List.drop_zero, List.take_zero, Nat.reduceAdd, Nat.reduceSub, Nat.reduceMul, Nat.reduceLT, Nat.reduceEqDiff, reduceCtorEq, Nat.reduceLeDiff, Int.reduceLE, Int.reduceLT, Int.reduceToNat]
      simp

theorem same_x {F G : Nat → Prop} {H : AH} {a b : MapD} {ao ap ab bo bp bb : AV} (pool seed : Int) (hma : MpAt F H a ao ap ab) (hmb : MpAt G H b bo bp bb) (ha : OkMp a) (hb : OkMp b) :
    WC Try.prog (tabOf Try.prog NT0) S0 28 [mpV a ao ap ab, mpV b bo bp bb, pgV pool seed] H fun v h' => Ext H.n H h' ∧ v = .lit (.bool (sameF a b pool seed)) := by
  refine WC_fn Try.func28 rfl rfl ?_
  have oa1 := hma.o.one
  have oa2 := hma.p.one
  have oa3 := hma.b.one
  have ob1 := hmb.o.one
  have ob2 := hmb.p.one
  have ob3 := hmb.b.one
  have ai1 := hma.o.isSl
  have ai2 := hma.p.isSl
  have ai3 := hma.b.isSl
  have bi1 := hmb.o.isSl
  have bi2 := hmb.p.isSl
  have bi3 := hmb.b.isSl
  simp only [core, WB_cond_s, put, ldL, WB_label, List.nil_append, List.drop_zero, List.take_zero, Nat.reduceAdd, Nat.reduceSub, Nat.reduceMul, Nat.reduceLT, Nat.reduceEqDiff, reduceCtorEq, Nat.reduceLeDiff, Int.reduceLE, Int.reduceLT, Int.reduceToNat, Try.ntmps28, mpV, pgV, oa1, oa2, oa3, ob1, ob2, ob3]
  obtain ⟨h1, hh1⟩ : ∃ h1, h1 = ((H.push (.cells [.lit (.int .i64 a.epoch), ao, ap, ab, .lit (.int .i64 a.leaf)] 31)).push (.cells [.lit (.int .i64 b.epoch), bo, bp, bb, .lit (.int .i64 b.leaf)] 31)).push (.cells [.lit (.int .i64 pool), .lit (.int .i64 seed)] 56) := ⟨_, rfl⟩
  have E1 : Ext H.n H h1 := hh1 ▸ (((Ext.refl _ _).push _ (Nat.le_refl _)).push _ (by rw [n_push]; omega)).push _ (by rw [n_push, n_push]; omega)
  have A1 : h1.at H.n = some (.cells [.lit (.int .i64 a.epoch), ao, ap, ab, .lit (.int .i64 a.leaf)] 31) := hh1 ▸ (at_push_lt _ (by rw [n_push, n_push]; omega)).trans ((at_push_lt _ (by rw [n_push]; omega)).trans (at_push_n _ _))
  have B1 : h1.at (H.n + 1) = some (.cells [.lit (.int .i64 b.epoch), bo, bp, bb, .lit (.int .i64 b.leaf)] 31) := hh1 ▸ (at_push_lt _ (by rw [n_push, n_push]; omega)).trans (at_push_n _ _)
  have C1 : h1.at (H.n + 2) = some (.cells [.lit (.int .i64 pool), .lit (.int .i64 seed)] 56) := hh1 ▸ at_push_n _ _
  have la1 := at_lt A1
  have lb1 := at_lt B1
  have lc1 := at_lt C1
  have LA1 := ld_at (T := tabOf Try.prog NT0) A1
  have LB1 := ld_at (T := tabOf Try.prog NT0) B1
  have LC1 := ld_at (T := tabOf Try.prog NT0) C1
  rw [← hh1]
  clear hh1
  have l1 := actF_len (m := a) (pool := pool) (seed := seed)
  rw [WB_regionD [0, 1, 3, 4, 2, 5, 6, 7, 8, 9, 11, 12, 10, 13, 14, 15, 16] 497317544946356996440274708877975073207484893988855658752961144316584452967359508905984 (by kernel_rfl)]
  repeat ((with_reducible refine WDM_cons ?_; simp only [List.getElem?_toArray, List.getElem?_cons_zero, List.getElem?_cons_succ, WRegDO, kindOf]; try simp only [dropR_nil, dropR_cons, List.size_toArray, List.length_cons, List.length_nil, Nat.reduceAdd, waits_eq, Nat.reduceMul, Nat.zero_add, Nat.reduceShiftRight, Nat.reduceMod, Nat.reduceEqDiff, Nat.zero_ne_one, decide_true, decide_false, cond_true, cond_false]); simp only [core, WB_cond_s, put, ldL, WB_label, List.nil_append, List.drop_zero, List.take_zero, Nat.reduceAdd, Nat.reduceSub, Nat.reduceMul, Nat.reduceLT, Nat.reduceEqDiff, reduceCtorEq, Nat.reduceLeDiff, Int.reduceLE, Int.reduceLT, Int.reduceToNat, cored, LA1, la1, LB1, lb1, LC1, lc1, ai1, ai2, ai3, bi1, bi2, bi3])
  refine (act_x pool seed (hma.ext E1 (Nat.le_refl _)) ha.okM ha.1.1 ha.2.1.1).mono ?_
  rintro va h2 ⟨e2, hva⟩
  have E2 := E1.step e2
  have A2 := (e2.2 _ la1).trans A1
  have B2 := (e2.2 _ lb1).trans B1
  have C2 := (e2.2 _ lc1).trans C1
  have la2 := at_lt A2
  have lb2 := at_lt B2
  have lc2 := at_lt C2
  have LA2 := ld_at (T := tabOf Try.prog NT0) A2
  have LB2 := ld_at (T := tabOf Try.prog NT0) B2
  have LC2 := ld_at (T := tabOf Try.prog NT0) C2
  have sa := hva.isSl
  repeat ((with_reducible refine WDM_cons ?_; simp only [List.getElem?_toArray, List.getElem?_cons_zero, List.getElem?_cons_succ, WRegDO, kindOf]; try simp only [dropR_nil, dropR_cons, List.size_toArray, List.length_cons, List.length_nil, Nat.reduceAdd, waits_eq, Nat.reduceMul, Nat.zero_add, Nat.reduceShiftRight, Nat.reduceMod, Nat.reduceEqDiff, Nat.zero_ne_one, decide_true, decide_false, cond_true, cond_false]); simp only [core, WB_cond_s, put, ldL, WB_label, List.nil_append, List.drop_zero, List.take_zero, Nat.reduceAdd, Nat.reduceSub, Nat.reduceMul, Nat.reduceLT, Nat.reduceEqDiff, reduceCtorEq, Nat.reduceLeDiff, Int.reduceLE, Int.reduceLT, Int.reduceToNat, cored, LA2, la2, LB2, lb2, LC2, lc2, ai1, ai2, ai3, bi1, bi2, bi3, sa])
  refine (act_x pool seed (hmb.ext E2 (Nat.le_refl _)) hb.okM hb.1.1 hb.2.1.1).mono ?_
  rintro vb h3 ⟨e3, hvb⟩
  have E3 := E2.step e3
  have A3 := (e3.2 _ la2).trans A2
  have B3 := (e3.2 _ lb2).trans B2
  have C3 := (e3.2 _ lc2).trans C2
  have la3 := at_lt A3
  have lb3 := at_lt B3
  have lc3 := at_lt C3
  have LA3 := ld_at (T := tabOf Try.prog NT0) A3
  have LB3 := ld_at (T := tabOf Try.prog NT0) B3
  have LC3 := ld_at (T := tabOf Try.prog NT0) C3
  have sb := hvb.isSl
  repeat ((with_reducible refine WDM_cons ?_; simp only [List.getElem?_toArray, List.getElem?_cons_zero, List.getElem?_cons_succ, WRegDO, kindOf]; try simp only [dropR_nil, dropR_cons, List.size_toArray, List.length_cons, List.length_nil, Nat.reduceAdd, waits_eq, Nat.reduceMul, Nat.zero_add, Nat.reduceShiftRight, Nat.reduceMod, Nat.reduceEqDiff, Nat.zero_ne_one, decide_true, decide_false, cond_true, cond_false]); simp only [core, WB_cond_s, put, ldL, WB_label, List.nil_append, List.drop_zero, List.take_zero, Nat.reduceAdd, Nat.reduceSub, Nat.reduceMul, Nat.reduceLT, Nat.reduceEqDiff, reduceCtorEq, Nat.reduceLeDiff, Int.reduceLE, Int.reduceLT, Int.reduceToNat, cored, LA3, la3, LB3, lb3, LC3, lc3, ai1, ai2, ai3, bi1, bi2, bi3, sa, sb])
  refine (equal_x (hva.ext e3 (Nat.le_refl _)) hvb (by omega)).mono ?_
  rintro _ h4 ⟨rfl, rfl⟩
  cases hq : (actF a pool seed == actF b pool seed) with
  | false =>
    repeat ((with_reducible refine WDM_cons ?_; simp only [List.getElem?_toArray, List.getElem?_cons_zero, List.getElem?_cons_succ, WRegDO, kindOf]; try simp only [dropR_nil, dropR_cons, List.size_toArray, List.length_cons, List.length_nil, Nat.reduceAdd, waits_eq, Nat.reduceMul, Nat.zero_add, Nat.reduceShiftRight, Nat.reduceMod, Nat.reduceEqDiff, Nat.zero_ne_one, decide_true, decide_false, cond_true, cond_false]); simp only [core, WB_cond_s, put, ldL, WB_label, List.nil_append, List.drop_zero, List.take_zero, Nat.reduceAdd, Nat.reduceSub, Nat.reduceMul, Nat.reduceLT, Nat.reduceEqDiff, reduceCtorEq, Nat.reduceLeDiff, Int.reduceLE, Int.reduceLT, Int.reduceToNat, cored, LA3, la3, LB3, lb3, LC3, lc3, ai1, ai2, ai3, bi1, bi2, bi3, sa, sb])
    exact ⟨E3, by unfold sameF; rw [hq]; rfl⟩
  | true =>
  repeat ((with_reducible refine WDM_cons ?_; simp only [List.getElem?_toArray, List.getElem?_cons_zero, List.getElem?_cons_succ, WRegDO, kindOf]; try simp only [dropR_nil, dropR_cons, List.size_toArray, List.length_cons, List.length_nil, Nat.reduceAdd, waits_eq, Nat.reduceMul, Nat.zero_add, Nat.reduceShiftRight, Nat.reduceMod, Nat.reduceEqDiff, Nat.zero_ne_one, decide_true, decide_false, cond_true, cond_false]); simp only [core, WB_cond_s, put, ldL, WB_label, List.nil_append, List.drop_zero, List.take_zero, Nat.reduceAdd, Nat.reduceSub, Nat.reduceMul, Nat.reduceLT, Nat.reduceEqDiff, reduceCtorEq, Nat.reduceLeDiff, Int.reduceLE, Int.reduceLT, Int.reduceToNat, cored, LA3, la3, LB3, lb3, LC3, lc3, ai1, ai2, ai3, bi1, bi2, bi3, sa, sb])
  refine (boots_x pool seed (hma.ext E3 (Nat.le_refl _)) ha.okM ha.1.1 ha.2.1.1).mono ?_
  rintro wa h4 ⟨e4, hwa⟩
  have E4 := E3.step e4
  have A4 := (e4.2 _ la3).trans A3
  have B4 := (e4.2 _ lb3).trans B3
  have C4 := (e4.2 _ lc3).trans C3
  have la4 := at_lt A4
  have lb4 := at_lt B4
  have lc4 := at_lt C4
  have LA4 := ld_at (T := tabOf Try.prog NT0) A4
  have LB4 := ld_at (T := tabOf Try.prog NT0) B4
  have LC4 := ld_at (T := tabOf Try.prog NT0) C4
  have ta := hwa.isSl
  repeat ((with_reducible refine WDM_cons ?_; simp only [List.getElem?_toArray, List.getElem?_cons_zero, List.getElem?_cons_succ, WRegDO, kindOf]; try simp only [dropR_nil, dropR_cons, List.size_toArray, List.length_cons, List.length_nil, Nat.reduceAdd, waits_eq, Nat.reduceMul, Nat.zero_add, Nat.reduceShiftRight, Nat.reduceMod, Nat.reduceEqDiff, Nat.zero_ne_one, decide_true, decide_false, cond_true, cond_false]); simp only [core, WB_cond_s, put, ldL, WB_label, List.nil_append, List.drop_zero, List.take_zero, Nat.reduceAdd, Nat.reduceSub, Nat.reduceMul, Nat.reduceLT, Nat.reduceEqDiff, reduceCtorEq, Nat.reduceLeDiff, Int.reduceLE, Int.reduceLT, Int.reduceToNat, cored, LA4, la4, LB4, lb4, LC4, lc4, ai1, ai2, ai3, bi1, bi2, bi3, sa, sb, ta])
  refine (boots_x pool seed (hmb.ext E4 (Nat.le_refl _)) hb.okM hb.1.1 hb.2.1.1).mono ?_
  rintro wb h5 ⟨e5, hwb⟩
  have E5 := E4.step e5
  have A5 := (e5.2 _ la4).trans A4
  have B5 := (e5.2 _ lb4).trans B4
  have C5 := (e5.2 _ lc4).trans C4
  have la5 := at_lt A5
  have lb5 := at_lt B5
  have lc5 := at_lt C5
  have LA5 := ld_at (T := tabOf Try.prog NT0) A5
  have LB5 := ld_at (T := tabOf Try.prog NT0) B5
  have LC5 := ld_at (T := tabOf Try.prog NT0) C5
  have tb := hwb.isSl
  repeat ((with_reducible refine WDM_cons ?_; simp only [List.getElem?_toArray, List.getElem?_cons_zero, List.getElem?_cons_succ, WRegDO, kindOf]; try simp only [dropR_nil, dropR_cons, List.size_toArray, List.length_cons, List.length_nil, Nat.reduceAdd, waits_eq, Nat.reduceMul, Nat.zero_add, Nat.reduceShiftRight, Nat.reduceMod, Nat.reduceEqDiff, Nat.zero_ne_one, decide_true, decide_false, cond_true, cond_false]); simp only [core, WB_cond_s, put, ldL, WB_label, List.nil_append, List.drop_zero, List.take_zero, Nat.reduceAdd, Nat.reduceSub, Nat.reduceMul, Nat.reduceLT, Nat.reduceEqDiff, reduceCtorEq, Nat.reduceLeDiff, Int.reduceLE, Int.reduceLT, Int.reduceToNat, cored, LA5, la5, LB5, lb5, LC5, lc5, ai1, ai2, ai3, bi1, bi2, bi3, sa, sb, ta, tb])
  refine (equal_x (hwa.ext e5 (Nat.le_refl _)) hwb (by unfold bootF; rw [List.length_map]; omega)).mono ?_
  rintro _ h6 ⟨rfl, rfl⟩
  repeat ((with_reducible refine WDM_cons ?_; simp only [List.getElem?_toArray, List.getElem?_cons_zero, List.getElem?_cons_succ, WRegDO, kindOf]; try simp only [dropR_nil, dropR_cons, List.size_toArray, List.length_cons, List.length_nil, Nat.reduceAdd, waits_eq, Nat.reduceMul, Nat.zero_add, Nat.reduceShiftRight, Nat.reduceMod, Nat.reduceEqDiff, Nat.zero_ne_one, decide_true, decide_false, cond_true, cond_false]); simp only [core, WB_cond_s, put, ldL, WB_label, List.nil_append, List.drop_zero, List.take_zero, Nat.reduceAdd, Nat.reduceSub, Nat.reduceMul, Nat.reduceLT, Nat.reduceEqDiff, reduceCtorEq, Nat.reduceLeDiff, Int.reduceLE, Int.reduceLT, Int.reduceToNat, cored, LA5, la5, LB5, lb5, LC5, lc5, ai1, ai2, ai3, bi1, bi2, bi3, sa, sb, ta, tb])
  exact ⟨E5, by unfold sameF; rw [hq]; rfl⟩


theorem sameR_x {F G : Nat → Prop} {H : AH} {a b : MapD} {ao ap ab bo bp bb : AV} (pool seed : Int) (hma : MpAt F H a ao ap ab) (hmb : MpAt G H b bo bp bb) (ha : OkMp a) (hb : OkMp b) :
    WC Try.prog (tabOf Try.prog NT0) S0 29 [mpV a ao ap ab, mpV b bo bp bb, pgV pool seed] H fun v h' => Ext H.n H h' ∧ v = .lit (.bool (sameF a b pool seed)) := by
  refine WC_fn Try.func29 rfl rfl ?_
  have oa1 := hma.o.one
  have oa2 := hma.p.one
  have oa3 := hma.b.one
  have ob1 := hmb.o.one
  have ob2 := hmb.p.one
  have ob3 := hmb.b.one
  have ai1 := hma.o.isSl
  have ai2 := hma.p.isSl
  have ai3 := hma.b.isSl
  have bi1 := hmb.o.isSl
  have bi2 := hmb.p.isSl
  have bi3 := hmb.b.isSl
  simp only [core, WB_cond_s, put, ldL, WB_label, List.nil_append, List.drop_zero, List.take_zero, Nat.reduceAdd, Nat.reduceSub, Nat.reduceMul, Nat.reduceLT, Nat.reduceEqDiff, reduceCtorEq, Nat.reduceLeDiff, Int.reduceLE, Int.reduceLT, Int.reduceToNat, Try.ntmps29, mpV, pgV, oa1, oa2, oa3, ob1, ob2, ob3]
  obtain ⟨h1, hh1⟩ : ∃ h1, h1 = ((H.push (.cells [.lit (.int .i64 a.epoch), ao, ap, ab, .lit (.int .i64 a.leaf)] 31)).push (.cells [.lit (.int .i64 b.epoch), bo, bp, bb, .lit (.int .i64 b.leaf)] 31)).push (.cells [.lit (.int .i64 pool), .lit (.int .i64 seed)] 56) := ⟨_, rfl⟩
  have E1 : Ext H.n H h1 := hh1 ▸ (((Ext.refl _ _).push _ (Nat.le_refl _)).push _ (by rw [n_push]; omega)).push _ (by rw [n_push, n_push]; omega)
  have A1 : h1.at H.n = some (.cells [.lit (.int .i64 a.epoch), ao, ap, ab, .lit (.int .i64 a.leaf)] 31) := hh1 ▸ (at_push_lt _ (by rw [n_push, n_push]; omega)).trans ((at_push_lt _ (by rw [n_push]; omega)).trans (at_push_n _ _))
  have B1 : h1.at (H.n + 1) = some (.cells [.lit (.int .i64 b.epoch), bo, bp, bb, .lit (.int .i64 b.leaf)] 31) := hh1 ▸ (at_push_lt _ (by rw [n_push, n_push]; omega)).trans (at_push_n _ _)
  have C1 : h1.at (H.n + 2) = some (.cells [.lit (.int .i64 pool), .lit (.int .i64 seed)] 56) := hh1 ▸ at_push_n _ _
  have la1 := at_lt A1
  have lb1 := at_lt B1
  have lc1 := at_lt C1
  have LA1 := ld_at (T := tabOf Try.prog NT0) A1
  have LB1 := ld_at (T := tabOf Try.prog NT0) B1
  have LC1 := ld_at (T := tabOf Try.prog NT0) C1
  rw [← hh1]
  clear hh1
  have l1 := actF_len (m := a) (pool := pool) (seed := seed)
  rw [WB_regionD [0, 1, 3, 4, 2, 5, 6, 7, 8, 9, 11, 12, 10, 13, 14, 15, 16] 497317544946356996440274708877975073207484893988855658752961144316584452967359508905984 (by kernel_rfl)]
  repeat ((with_reducible refine WDM_cons ?_; simp only [List.getElem?_toArray, List.getElem?_cons_zero, List.getElem?_cons_succ, WRegDO, kindOf]; try simp only [dropR_nil, dropR_cons, List.size_toArray, List.length_cons, List.length_nil, Nat.reduceAdd, waits_eq, Nat.reduceMul, Nat.zero_add, Nat.reduceShiftRight, Nat.reduceMod, Nat.reduceEqDiff, Nat.zero_ne_one, decide_true, decide_false, cond_true, cond_false]); simp only [core, WB_cond_s, put, ldL, WB_label, List.nil_append, List.drop_zero, List.take_zero, Nat.reduceAdd, Nat.reduceSub, Nat.reduceMul, Nat.reduceLT, Nat.reduceEqDiff, reduceCtorEq, Nat.reduceLeDiff, Int.reduceLE, Int.reduceLT, Int.reduceToNat, cored, LA1, la1, LB1, lb1, LC1, lc1, ai1, ai2, ai3, bi1, bi2, bi3])
  refine (actR_x pool seed (hma.ext E1 (Nat.le_refl _)) ha.okM ha.1.1 ha.2.1.1).mono ?_
  rintro va h2 ⟨e2, hva⟩
  have E2 := E1.step e2
  have A2 := (e2.2 _ la1).trans A1
  have B2 := (e2.2 _ lb1).trans B1
  have C2 := (e2.2 _ lc1).trans C1
  have la2 := at_lt A2
  have lb2 := at_lt B2
  have lc2 := at_lt C2
  have LA2 := ld_at (T := tabOf Try.prog NT0) A2
  have LB2 := ld_at (T := tabOf Try.prog NT0) B2
  have LC2 := ld_at (T := tabOf Try.prog NT0) C2
  have sa := hva.isSl
  repeat ((with_reducible refine WDM_cons ?_; simp only [List.getElem?_toArray, List.getElem?_cons_zero, List.getElem?_cons_succ, WRegDO, kindOf]; try simp only [dropR_nil, dropR_cons, List.size_toArray, List.length_cons, List.length_nil, Nat.reduceAdd, waits_eq, Nat.reduceMul, Nat.zero_add, Nat.reduceShiftRight, Nat.reduceMod, Nat.reduceEqDiff, Nat.zero_ne_one, decide_true, decide_false, cond_true, cond_false]); simp only [core, WB_cond_s, put, ldL, WB_label, List.nil_append, List.drop_zero, List.take_zero, Nat.reduceAdd, Nat.reduceSub, Nat.reduceMul, Nat.reduceLT, Nat.reduceEqDiff, reduceCtorEq, Nat.reduceLeDiff, Int.reduceLE, Int.reduceLT, Int.reduceToNat, cored, LA2, la2, LB2, lb2, LC2, lc2, ai1, ai2, ai3, bi1, bi2, bi3, sa])
  refine (actR_x pool seed (hmb.ext E2 (Nat.le_refl _)) hb.okM hb.1.1 hb.2.1.1).mono ?_
  rintro vb h3 ⟨e3, hvb⟩
  have E3 := E2.step e3
  have A3 := (e3.2 _ la2).trans A2
  have B3 := (e3.2 _ lb2).trans B2
  have C3 := (e3.2 _ lc2).trans C2
  have la3 := at_lt A3
  have lb3 := at_lt B3
  have lc3 := at_lt C3
  have LA3 := ld_at (T := tabOf Try.prog NT0) A3
  have LB3 := ld_at (T := tabOf Try.prog NT0) B3
  have LC3 := ld_at (T := tabOf Try.prog NT0) C3
  have sb := hvb.isSl
  repeat ((with_reducible refine WDM_cons ?_; simp only [List.getElem?_toArray, List.getElem?_cons_zero, List.getElem?_cons_succ, WRegDO, kindOf]; try simp only [dropR_nil, dropR_cons, List.size_toArray, List.length_cons, List.length_nil, Nat.reduceAdd, waits_eq, Nat.reduceMul, Nat.zero_add, Nat.reduceShiftRight, Nat.reduceMod, Nat.reduceEqDiff, Nat.zero_ne_one, decide_true, decide_false, cond_true, cond_false]); simp only [core, WB_cond_s, put, ldL, WB_label, List.nil_append, List.drop_zero, List.take_zero, Nat.reduceAdd, Nat.reduceSub, Nat.reduceMul, Nat.reduceLT, Nat.reduceEqDiff, reduceCtorEq, Nat.reduceLeDiff, Int.reduceLE, Int.reduceLT, Int.reduceToNat, cored, LA3, la3, LB3, lb3, LC3, lc3, ai1, ai2, ai3, bi1, bi2, bi3, sa, sb])
  refine (ints_x (hva.ext e3 (Nat.le_refl _)) hvb (by omega)).mono ?_
  rintro _ h4 ⟨rfl, rfl⟩
  cases hq : (actF a pool seed == actF b pool seed) with
  | false =>
    repeat ((with_reducible refine WDM_cons ?_; simp only [List.getElem?_toArray, List.getElem?_cons_zero, List.getElem?_cons_succ, WRegDO, kindOf]; try simp only [dropR_nil, dropR_cons, List.size_toArray, List.length_cons, List.length_nil, Nat.reduceAdd, waits_eq, Nat.reduceMul, Nat.zero_add, Nat.reduceShiftRight, Nat.reduceMod, Nat.reduceEqDiff, Nat.zero_ne_one, decide_true, decide_false, cond_true, cond_false]); simp only [core, WB_cond_s, put, ldL, WB_label, List.nil_append, List.drop_zero, List.take_zero, Nat.reduceAdd, Nat.reduceSub, Nat.reduceMul, Nat.reduceLT, Nat.reduceEqDiff, reduceCtorEq, Nat.reduceLeDiff, Int.reduceLE, Int.reduceLT, Int.reduceToNat, cored, LA3, la3, LB3, lb3, LC3, lc3, ai1, ai2, ai3, bi1, bi2, bi3, sa, sb])
    exact ⟨E3, by unfold sameF; rw [hq]; rfl⟩
  | true =>
  repeat ((with_reducible refine WDM_cons ?_; simp only [List.getElem?_toArray, List.getElem?_cons_zero, List.getElem?_cons_succ, WRegDO, kindOf]; try simp only [dropR_nil, dropR_cons, List.size_toArray, List.length_cons, List.length_nil, Nat.reduceAdd, waits_eq, Nat.reduceMul, Nat.zero_add, Nat.reduceShiftRight, Nat.reduceMod, Nat.reduceEqDiff, Nat.zero_ne_one, decide_true, decide_false, cond_true, cond_false]); simp only [core, WB_cond_s, put, ldL, WB_label, List.nil_append, List.drop_zero, List.take_zero, Nat.reduceAdd, Nat.reduceSub, Nat.reduceMul, Nat.reduceLT, Nat.reduceEqDiff, reduceCtorEq, Nat.reduceLeDiff, Int.reduceLE, Int.reduceLT, Int.reduceToNat, cored, LA3, la3, LB3, lb3, LC3, lc3, ai1, ai2, ai3, bi1, bi2, bi3, sa, sb])
  refine (bootsR_x pool seed (hma.ext E3 (Nat.le_refl _)) ha.okM ha.1.1 ha.2.1.1).mono ?_
  rintro wa h4 ⟨e4, hwa⟩
  have E4 := E3.step e4
  have A4 := (e4.2 _ la3).trans A3
  have B4 := (e4.2 _ lb3).trans B3
  have C4 := (e4.2 _ lc3).trans C3
  have la4 := at_lt A4
  have lb4 := at_lt B4
  have lc4 := at_lt C4
  have LA4 := ld_at (T := tabOf Try.prog NT0) A4
  have LB4 := ld_at (T := tabOf Try.prog NT0) B4
  have LC4 := ld_at (T := tabOf Try.prog NT0) C4
  have ta := hwa.isSl
  repeat ((with_reducible refine WDM_cons ?_; simp only [List.getElem?_toArray, List.getElem?_cons_zero, List.getElem?_cons_succ, WRegDO, kindOf]; try simp only [dropR_nil, dropR_cons, List.size_toArray, List.length_cons, List.length_nil, Nat.reduceAdd, waits_eq, Nat.reduceMul, Nat.zero_add, Nat.reduceShiftRight, Nat.reduceMod, Nat.reduceEqDiff, Nat.zero_ne_one, decide_true, decide_false, cond_true, cond_false]); simp only [core, WB_cond_s, put, ldL, WB_label, List.nil_append, List.drop_zero, List.take_zero, Nat.reduceAdd, Nat.reduceSub, Nat.reduceMul, Nat.reduceLT, Nat.reduceEqDiff, reduceCtorEq, Nat.reduceLeDiff, Int.reduceLE, Int.reduceLT, Int.reduceToNat, cored, LA4, la4, LB4, lb4, LC4, lc4, ai1, ai2, ai3, bi1, bi2, bi3, sa, sb, ta])
  refine (bootsR_x pool seed (hmb.ext E4 (Nat.le_refl _)) hb.okM hb.1.1 hb.2.1.1).mono ?_
  rintro wb h5 ⟨e5, hwb⟩
  have E5 := E4.step e5
  have A5 := (e5.2 _ la4).trans A4
  have B5 := (e5.2 _ lb4).trans B4
  have C5 := (e5.2 _ lc4).trans C4
  have la5 := at_lt A5
  have lb5 := at_lt B5
  have lc5 := at_lt C5
  have LA5 := ld_at (T := tabOf Try.prog NT0) A5
  have LB5 := ld_at (T := tabOf Try.prog NT0) B5
  have LC5 := ld_at (T := tabOf Try.prog NT0) C5
  have tb := hwb.isSl
  repeat ((with_reducible refine WDM_cons ?_; simp only [List.getElem?_toArray, List.getElem?_cons_zero, List.getElem?_cons_succ, WRegDO, kindOf]; try simp only [dropR_nil, dropR_cons, List.size_toArray, List.length_cons, List.length_nil, Nat.reduceAdd, waits_eq, Nat.reduceMul, Nat.zero_add, Nat.reduceShiftRight, Nat.reduceMod, Nat.reduceEqDiff, Nat.zero_ne_one, decide_true, decide_false, cond_true, cond_false]); simp only [core, WB_cond_s, put, ldL, WB_label, List.nil_append, List.drop_zero, List.take_zero, Nat.reduceAdd, Nat.reduceSub, Nat.reduceMul, Nat.reduceLT, Nat.reduceEqDiff, reduceCtorEq, Nat.reduceLeDiff, Int.reduceLE, Int.reduceLT, Int.reduceToNat, cored, LA5, la5, LB5, lb5, LC5, lc5, ai1, ai2, ai3, bi1, bi2, bi3, sa, sb, ta, tb])
  refine (ints_x (hwa.ext e5 (Nat.le_refl _)) hwb (by unfold bootF; rw [List.length_map]; omega)).mono ?_
  rintro _ h6 ⟨rfl, rfl⟩
  repeat ((with_reducible refine WDM_cons ?_; simp only [List.getElem?_toArray, List.getElem?_cons_zero, List.getElem?_cons_succ, WRegDO, kindOf]; try simp only [dropR_nil, dropR_cons, List.size_toArray, List.length_cons, List.length_nil, Nat.reduceAdd, waits_eq, Nat.reduceMul, Nat.zero_add, Nat.reduceShiftRight, Nat.reduceMod, Nat.reduceEqDiff, Nat.zero_ne_one, decide_true, decide_false, cond_true, cond_false]); simp only [core, WB_cond_s, put, ldL, WB_label, List.nil_append, List.drop_zero, List.take_zero, Nat.reduceAdd, Nat.reduceSub, Nat.reduceMul, Nat.reduceLT, Nat.reduceEqDiff, reduceCtorEq, Nat.reduceLeDiff, Int.reduceLE, Int.reduceLT, Int.reduceToNat, cored, LA5, la5, LB5, lb5, LC5, lc5, ai1, ai2, ai3, bi1, bi2, bi3, sa, sb, ta, tb])
  exact ⟨E5, by unfold sameF; rw [hq]; rfl⟩


theorem tame_x {F : Nat → Prop} {H : AH} {m : MapD} {vo vp vb : AV} (hm : MpAt F H m vo vp vb) :
    WC Try.prog (tabOf Try.prog NT0) S0 26 [mpV m vo vp vb] H fun v h' => Ext H.n H h' ∧ v = .lit (.bool (decide (m.pools.length < 20) && decide (m.buckets.length < 40))) := by
  refine WC_fn Try.func26 rfl rfl ?_
  have o1 := hm.o.one
  have o2 := hm.p.one
  have o3 := hm.b.one
  have i1 := hm.o.isSl
  have i2 := hm.p.isSl
  have i3 := hm.b.isSl
  have l2 := hm.p.lenD
  have l3 := hm.b.lenD
  have EP : ∀ x, Ext H.n H (H.push x) := fun x => (Ext.refl _ _).push _ (Nat.le_refl _)
  by_cases c1 : (m.pools.length : Int) < 20
  · have d1 : decide (m.pools.length < 20) = true := decide_eq_true (by omega)
    by_cases c2 : (m.buckets.length : Int) < 40
    · have d2 : decide (m.buckets.length < 40) = true := decide_eq_true (by omega)
      simp only [core, WB_cond_s, put, ldL, WB_label, List.nil_append, List.drop_zero, List.take_zero, Nat.reduceAdd, Nat.reduceSub, Nat.reduceMul, Nat.reduceLT, Nat.reduceEqDiff, reduceCtorEq, Nat.reduceLeDiff, Int.reduceLE, Int.reduceLT, Int.reduceToNat, Try.ntmps26, mpV, o1, o2, o3, i2, i3, l2, l3, c1, c2, d1, d2]
      exact EP _
    · have d2 : decide (m.buckets.length < 40) = false := decide_eq_false (by omega)
      simp only [core, WB_cond_s, put, ldL, WB_label, List.nil_append, List.drop_zero, List.take_zero, Nat.reduceAdd, Nat.reduceSub, Nat.reduceMul, Nat.reduceLT, Nat.reduceEqDiff, reduceCtorEq, Nat.reduceLeDiff, Int.reduceLE, Int.reduceLT, Int.reduceToNat, Try.ntmps26, mpV, o1, o2, o3, i2, i3, l2, l3, c1, c2, d1, d2]
      exact EP _
  · have d1 : decide (m.pools.length < 20) = false := decide_eq_false (by omega)
    simp only [core, WB_cond_s, put, ldL, WB_label, List.nil_append, List.drop_zero, List.take_zero, Nat.reduceAdd, Nat.reduceSub, Nat.reduceMul, Nat.reduceLT, Nat.reduceEqDiff, reduceCtorEq, Nat.reduceLeDiff, Int.reduceLE, Int.reduceLT, Int.reduceToNat, Try.ntmps26, mpV, o1, o2, o3, i2, i3, l2, l3, c1, d1]
    exact EP _

end Go.Proofs.Ytkgbeihcepociaa.Ex
end

section
/- A law's call, from the machine's run over the real heap. -/
set_option linter.unusedSimpArgs false
set_option linter.unusedVariables false
namespace Go.Proofs.Ytkgbeihcepociaa.Ex
open Go Go.RowKit Go.ChangeShapes Go.WideShapes Go.ChangeAt

theorem rels_absV {ρ : Nat → Value} {w : World} : ∀ {cs : List Value}, (∀ c ∈ cs, c.oneCell' = true) → rels ρ (mu0 w) w (cs.map (absV w)) cs
  | [], _ => rels_nil
  | c :: r, h => rels_cons (absV_rel (h c (by simp))) (rels_absV fun x hx => h x (by simp [hx]))

theorem law_join {W : World} {f : FuncId} {vs : List Value} {avs : List AV} (ha : rels (fun _ => default) (mu0 W) W avs vs) (hw : WC Try.prog (tabOf Try.prog NT0) S0 f avs (absH W) fun v h' => v = .lit (.bool true)) :
    Calls Try.prog f vs.toArray W fun e w' => e = .returned (.bool true) ∧ Below W.heap.size W w' := by
  obtain ⟨n, o, h1, hex, v, cm, rfl, rfl⟩ := hw
  refine (ex_callsH tab_sound noNG follows_mixed (sums_ok _ _) (absH_hr W) (absH_nw W) hex ha).mono fun e w' hy => ?_
  obtain ⟨v', μ', rfl, hb, hv⟩ := hy
  exact ⟨by rw [rel_bool_inv hv], hb⟩

theorem open_agg {P : Program} {H : Type} {enc : TypeId × Value → H} {W : World} {base : Nat} {t : TypeId} {v0 : Value} {d0 : DataW H} {p0 : List MemPlace} {d : TypeDesc} {α : Type} {R : Rep α} {B : α → Prop} (hO : OpensA enc P W t R B) (hu : P.underlying t = some d) (hd : isAggD d = true)
    (k0 : Value.okWide P W .any base t v0) (h0 : DataW.Trod enc P W 0 (fun _ => true) true t v0 d0 p0) (hw : ∀ n ∈ d0.weights P t, n ≤ reachBytes) :
    ∃ (cs : List AV) (y : α), rel (fun _ => default) (mu0 W) W (.agg cs) v0 ∧ R.is (InH W) (absH W) cs y ∧ B y := by
  obtain ⟨cs, rfl, h1, h2⟩ := okWide_agg hu hd k0
  obtain ⟨fuel, hf⟩ := h0
  obtain ⟨h3, h4, y, h5, h6⟩ := hO.2 fuel cs.toList _ hf (List.all_eq_true.2 fun n hn => (by simpa using hw n hn))
  refine ⟨_, y, ?_, h5, h6⟩
  unfold rel
  exact ⟨cs.toList, by simp, rels_absV h4⟩
end Go.Proofs.Ytkgbeihcepociaa.Ex
end

section
/- The law PlaceSame: its call, by the machine. -/
set_option linter.unusedSimpArgs false
set_option linter.unusedVariables false
set_option maxRecDepth 10000
set_option maxHeartbeats 4000000
namespace Go.Proofs.Ytkgbeihcepociaa.Ex
open Go
theorem sameF_self (a : MapD) (pool seed : Int) : sameF a a pool seed = true := by simp [sameF]

theorem placeSame_m {F G : Nat → Prop} {H : AH} {a b : MapD} {ao ap ab bo bp bb : AV} (pool seed : Int) (hma : MpAt F H a ao ap ab) (hmb : MpAt G H b bo bp bb) (ha : OkMp a) (hb : OkMp b) :
    WC Try.prog (tabOf Try.prog NT0) S0 6 [mpV a ao ap ab, mpV b bo bp bb, pgV pool seed] H fun v h' => v = .lit (.bool true) := by
  refine WC_fn Try.func6 rfl rfl ?_
  have oa1 := hma.o.one
  have oa2 := hma.p.one
  have oa3 := hma.b.one
  have ob1 := hmb.o.one
  have ob2 := hmb.p.one
  have ob3 := hmb.b.one
  have ai1 := hma.o.isSl
  have ai2 := hma.p.isSl
  have ai3 := hma.b.isSl
  have bi1 := hmb.o.isSl
  have bi2 := hmb.p.isSl
  have bi3 := hmb.b.isSl
  simp only [core, WB_cond_s, put, ldL, WB_label, List.nil_append, List.drop_zero, List.take_zero, Nat.reduceAdd, Nat.reduceSub, Nat.reduceMul, Nat.reduceLT, Nat.reduceEqDiff, reduceCtorEq, Nat.reduceLeDiff, Int.reduceLE, Int.reduceLT, Int.reduceToNat, Try.ntmps6, mpV, pgV, oa1, oa2, oa3, ob1, ob2, ob3]
  obtain ⟨h1, hh1⟩ : ∃ h1, h1 = ((H.push (.cells [.lit (.int .i64 a.epoch), ao, ap, ab, .lit (.int .i64 a.leaf)] 31)).push (.cells [.lit (.int .i64 b.epoch), bo, bp, bb, .lit (.int .i64 b.leaf)] 31)).push (.cells [.lit (.int .i64 pool), .lit (.int .i64 seed)] 56) := ⟨_, rfl⟩
  have E1 : Ext H.n H h1 := hh1 ▸ (((Ext.refl _ _).push _ (Nat.le_refl _)).push _ (by rw [n_push]; omega)).push _ (by rw [n_push, n_push]; omega)
  have A1 : h1.at H.n = some (.cells [.lit (.int .i64 a.epoch), ao, ap, ab, .lit (.int .i64 a.leaf)] 31) := hh1 ▸ (at_push_lt _ (by rw [n_push, n_push]; omega)).trans ((at_push_lt _ (by rw [n_push]; omega)).trans (at_push_n _ _))
  have B1 : h1.at (H.n + 1) = some (.cells [.lit (.int .i64 b.epoch), bo, bp, bb, .lit (.int .i64 b.leaf)] 31) := hh1 ▸ (at_push_lt _ (by rw [n_push, n_push]; omega)).trans (at_push_n _ _)
  have C1 : h1.at (H.n + 2) = some (.cells [.lit (.int .i64 pool), .lit (.int .i64 seed)] 56) := hh1 ▸ at_push_n _ _
  have la1 := at_lt A1
  have lb1 := at_lt B1
  have lc1 := at_lt C1
  rw [← hh1]
  clear hh1
  refine (tame_x (hma.ext E1 (Nat.le_refl _))).mono ?_
  rintro _ h2 ⟨e2, rfl⟩
  have E2 := E1.step e2
  have A2 := (e2.2 _ la1).trans A1
  have B2 := (e2.2 _ lb1).trans B1
  have C2 := (e2.2 _ lc1).trans C1
  have la2 := at_lt A2
  have lb2 := at_lt B2
  have lc2 := at_lt C2
  have LA2 := ld_at (T := tabOf Try.prog NT0) A2
  have LB2 := ld_at (T := tabOf Try.prog NT0) B2
  have LC2 := ld_at (T := tabOf Try.prog NT0) C2
  obtain ⟨ta, hta⟩ : ∃ ta, ta = (decide (a.pools.length < 20) && decide (a.buckets.length < 40)) := ⟨_, rfl⟩
  rw [← hta]
  by_cases ht : ta = false
  · simp only [core, WB_cond_s, put, ldL, WB_label, List.nil_append, List.drop_zero, List.take_zero, Nat.reduceAdd, Nat.reduceSub, Nat.reduceMul, Nat.reduceLT, Nat.reduceEqDiff, reduceCtorEq, Nat.reduceLeDiff, Int.reduceLE, Int.reduceLT, Int.reduceToNat, ht]
    refine lives09_c ?_
    simp only [core, WB_cond_s, put, ldL, WB_label, List.nil_append, List.drop_zero, List.take_zero, Nat.reduceAdd, Nat.reduceSub, Nat.reduceMul, Nat.reduceLT, Nat.reduceEqDiff, reduceCtorEq, Nat.reduceLeDiff, Int.reduceLE, Int.reduceLT, Int.reduceToNat]
  have ht : ta = true := by simpa using ht
  simp only [core, WB_cond_s, put, ldL, WB_label, List.nil_append, List.drop_zero, List.take_zero, Nat.reduceAdd, Nat.reduceSub, Nat.reduceMul, Nat.reduceLT, Nat.reduceEqDiff, reduceCtorEq, Nat.reduceLeDiff, Int.reduceLE, Int.reduceLT, Int.reduceToNat, ht, LB2, lb2]
  refine (tame_x (hmb.ext E2 (Nat.le_refl _))).mono ?_
  rintro _ h3 ⟨e3, rfl⟩
  have E3 := E2.step e3
  have A3 := (e3.2 _ la2).trans A2
  have B3 := (e3.2 _ lb2).trans B2
  have C3 := (e3.2 _ lc2).trans C2
  have la3 := at_lt A3
  have lb3 := at_lt B3
  have lc3 := at_lt C3
  have LA3 := ld_at (T := tabOf Try.prog NT0) A3
  have LB3 := ld_at (T := tabOf Try.prog NT0) B3
  have LC3 := ld_at (T := tabOf Try.prog NT0) C3
  obtain ⟨tb, htb⟩ : ∃ tb, tb = (decide (b.pools.length < 20) && decide (b.buckets.length < 40)) := ⟨_, rfl⟩
  rw [← htb]
  by_cases ht2 : tb = false
  · simp only [core, WB_cond_s, put, ldL, WB_label, List.nil_append, List.drop_zero, List.take_zero, Nat.reduceAdd, Nat.reduceSub, Nat.reduceMul, Nat.reduceLT, Nat.reduceEqDiff, reduceCtorEq, Nat.reduceLeDiff, Int.reduceLE, Int.reduceLT, Int.reduceToNat, ht2]
    refine lives09_c ?_
    simp only [core, WB_cond_s, put, ldL, WB_label, List.nil_append, List.drop_zero, List.take_zero, Nat.reduceAdd, Nat.reduceSub, Nat.reduceMul, Nat.reduceLT, Nat.reduceEqDiff, reduceCtorEq, Nat.reduceLeDiff, Int.reduceLE, Int.reduceLT, Int.reduceToNat]
  have ht2 : tb = true := by simpa using ht2
  simp only [core, WB_cond_s, put, ldL, WB_label, List.nil_append, List.drop_zero, List.take_zero, Nat.reduceAdd, Nat.reduceSub, Nat.reduceMul, Nat.reduceLT, Nat.reduceEqDiff, reduceCtorEq, Nat.reduceLeDiff, Int.reduceLE, Int.reduceLT, Int.reduceToNat, ht2]
  rw [WB_regionD [0, 1, 2, 4, 5, 6, 3, 7, 8, 9, 10, 11, 12, 13, 14, 15, 16, 17, 18] 2348535863524654754669802686016061226805419721814779662947549626487646129052042023012544854418323576734089216 (by kernel_rfl)]
  repeat ((with_reducible refine WDM_cons ?_; simp only [List.getElem?_toArray, List.getElem?_cons_zero, List.getElem?_cons_succ, WRegDO, kindOf]; try simp only [dropR_nil, dropR_cons, List.size_toArray, List.length_cons, List.length_nil, Nat.reduceAdd, waits_eq, Nat.reduceMul, Nat.zero_add, Nat.reduceShiftRight, Nat.reduceMod, Nat.reduceEqDiff, Nat.zero_ne_one, decide_true, decide_false, cond_true, cond_false]); simp only [core, WB_cond_s, put, ldL, WB_label, List.nil_append, List.drop_zero, List.take_zero, Nat.reduceAdd, Nat.reduceSub, Nat.reduceMul, Nat.reduceLT, Nat.reduceEqDiff, reduceCtorEq, Nat.reduceLeDiff, Int.reduceLE, Int.reduceLT, Int.reduceToNat, cored, LA3, la3, LB3, lb3, LC3, lc3, ai1, ai2, ai3, bi1, bi2, bi3])
  refine (same_x pool seed (hma.ext E3 (Nat.le_refl _)) (hmb.ext E3 (Nat.le_refl _)) ha hb).mono ?_
  rintro _ h4 ⟨e4, rfl⟩
  have E4 := E3.step e4
  have A4 := (e4.2 _ la3).trans A3
  have B4 := (e4.2 _ lb3).trans B3
  have C4 := (e4.2 _ lc3).trans C3
  have la4 := at_lt A4
  have lb4 := at_lt B4
  have lc4 := at_lt C4
  have LA4 := ld_at (T := tabOf Try.prog NT0) A4
  have LB4 := ld_at (T := tabOf Try.prog NT0) B4
  have LC4 := ld_at (T := tabOf Try.prog NT0) C4
  repeat ((with_reducible refine WDM_cons ?_; simp only [List.getElem?_toArray, List.getElem?_cons_zero, List.getElem?_cons_succ, WRegDO, kindOf]; try simp only [dropR_nil, dropR_cons, List.size_toArray, List.length_cons, List.length_nil, Nat.reduceAdd, waits_eq, Nat.reduceMul, Nat.zero_add, Nat.reduceShiftRight, Nat.reduceMod, Nat.reduceEqDiff, Nat.zero_ne_one, decide_true, decide_false, cond_true, cond_false]); simp only [core, WB_cond_s, put, ldL, WB_label, List.nil_append, List.drop_zero, List.take_zero, Nat.reduceAdd, Nat.reduceSub, Nat.reduceMul, Nat.reduceLT, Nat.reduceEqDiff, reduceCtorEq, Nat.reduceLeDiff, Int.reduceLE, Int.reduceLT, Int.reduceToNat, cored, LA4, la4, LB4, lb4, LC4, lc4, ai1, ai2, ai3, bi1, bi2, bi3])
  refine (sameR_x pool seed (hma.ext E4 (Nat.le_refl _)) (hmb.ext E4 (Nat.le_refl _)) ha hb).mono ?_
  rintro _ h5 ⟨e5, rfl⟩
  have E5 := E4.step e5
  have A5 := (e5.2 _ la4).trans A4
  have B5 := (e5.2 _ lb4).trans B4
  have C5 := (e5.2 _ lc4).trans C4
  have la5 := at_lt A5
  have lb5 := at_lt B5
  have lc5 := at_lt C5
  have LA5 := ld_at (T := tabOf Try.prog NT0) A5
  have LB5 := ld_at (T := tabOf Try.prog NT0) B5
  have LC5 := ld_at (T := tabOf Try.prog NT0) C5
  have heq : (sameF a b pool seed == sameF a b pool seed) = true := beq_self_eq_true _
  repeat ((with_reducible refine WDM_cons ?_; simp only [List.getElem?_toArray, List.getElem?_cons_zero, List.getElem?_cons_succ, WRegDO, kindOf]; try simp only [dropR_nil, dropR_cons, List.size_toArray, List.length_cons, List.length_nil, Nat.reduceAdd, waits_eq, Nat.reduceMul, Nat.zero_add, Nat.reduceShiftRight, Nat.reduceMod, Nat.reduceEqDiff, Nat.zero_ne_one, decide_true, decide_false, cond_true, cond_false]); simp only [core, WB_cond_s, put, ldL, WB_label, List.nil_append, List.drop_zero, List.take_zero, Nat.reduceAdd, Nat.reduceSub, Nat.reduceMul, Nat.reduceLT, Nat.reduceEqDiff, reduceCtorEq, Nat.reduceLeDiff, Int.reduceLE, Int.reduceLT, Int.reduceToNat, cored, LA5, la5, LB5, lb5, LC5, lc5, ai1, ai2, ai3, bi1, bi2, bi3, heq])
  refine (same_x pool seed (hma.ext E5 (Nat.le_refl _)) (hma.ext E5 (Nat.le_refl _)) ha ha).mono ?_
  rintro _ h6 ⟨e6, rfl⟩
  have hself := sameF_self a pool seed
  repeat ((with_reducible refine WDM_cons ?_; simp only [List.getElem?_toArray, List.getElem?_cons_zero, List.getElem?_cons_succ, WRegDO, kindOf]; try simp only [dropR_nil, dropR_cons, List.size_toArray, List.length_cons, List.length_nil, Nat.reduceAdd, waits_eq, Nat.reduceMul, Nat.zero_add, Nat.reduceShiftRight, Nat.reduceMod, Nat.reduceEqDiff, Nat.zero_ne_one, decide_true, decide_false, cond_true, cond_false]); simp only [core, WB_cond_s, put, ldL, WB_label, List.nil_append, List.drop_zero, List.take_zero, Nat.reduceAdd, Nat.reduceSub, Nat.reduceMul, Nat.reduceLT, Nat.reduceEqDiff, reduceCtorEq, Nat.reduceLeDiff, Int.reduceLE, Int.reduceLT, Int.reduceToNat, cored, hself])
  refine lives09_c ?_
  repeat ((with_reducible refine WDM_cons ?_; simp only [List.getElem?_toArray, List.getElem?_cons_zero, List.getElem?_cons_succ, WRegDO, kindOf]; try simp only [dropR_nil, dropR_cons, List.size_toArray, List.length_cons, List.length_nil, Nat.reduceAdd, waits_eq, Nat.reduceMul, Nat.zero_add, Nat.reduceShiftRight, Nat.reduceMod, Nat.reduceEqDiff, Nat.zero_ne_one, decide_true, decide_false, cond_true, cond_false]); simp only [core, WB_cond_s, put, ldL, WB_label, List.nil_append, List.drop_zero, List.take_zero, Nat.reduceAdd, Nat.reduceSub, Nat.reduceMul, Nat.reduceLT, Nat.reduceEqDiff, reduceCtorEq, Nat.reduceLeDiff, Int.reduceLE, Int.reduceLT, Int.reduceToNat, cored, hself])
end Go.Proofs.Ytkgbeihcepociaa.Ex
namespace Go.Proofs.Ytkgbeihcepociaa
open Go.RowKit Go.ChangeShapes Go.WideShapes Go.ChangeAt

set_option maxRecDepth 100000 in
theorem placeSame_walk {H : Type} {enc : TypeId × Value → H} {W : World} {base : Nat} {v0 v1 v2 : Value} {d0 d1 d2 : DataW H} {p0 p1 p2 : List MemPlace}
    (k0 : Value.okWide Try.prog W .any base 31 v0) (h0 : DataW.Trod enc Try.prog W 0 (fun _ => true) true 31 v0 d0 p0)
    (k1 : Value.okWide Try.prog W .any base 31 v1) (h1 : DataW.Trod enc Try.prog W 0 (fun _ => true) true 31 v1 d1 p1)
    (k2 : Value.okWide Try.prog W .any base 56 v2) (h2 : DataW.Trod enc Try.prog W 0 (fun _ => true) true 56 v2 d2 p2)
    {ts : List TypeId} {ds : List (DataW H)} (hsz : (DataW.weightsEach Try.prog ([31, 31, 56] ++ ts) ([d0, d1, d2] ++ ds)).all (· ≤ reachBytes) = true) :
    Calls Try.prog 6 #[v0, v1, v2] W fun e w' => e = .returned (.bool true) ∧ Below W.heap.size W w' := by
  obtain ⟨c0, a, r0, i0, ok0⟩ := Ex.open_agg Ex.opensA_Mp Try.underlying31 rfl k0 h0 (weights_le hsz (j := 0) rfl rfl)
  obtain ⟨c1, b, r1, i1, ok1⟩ := Ex.open_agg Ex.opensA_Mp Try.underlying31 rfl k1 h1 (weights_le hsz (j := 1) rfl rfl)
  obtain ⟨c2, g, r2, i2, -⟩ := Ex.open_agg Ex.opensA_Pg Try.underlying56 rfl k2 h2 (weights_le hsz (j := 2) rfl rfl)
  obtain ⟨ao, ap, ab, rfl, a1, a2, a3, -⟩ := Ex.RMp_is.1 i0
  obtain ⟨bo, bp, bb, rfl, b1, b2, b3, -⟩ := Ex.RMp_is.1 i1
  obtain ⟨rfl, -⟩ := Ex.RPg_is.1 i2
  exact Ex.law_join (Ex.rels_cons r0 (Ex.rels_cons r1 (Ex.rels_cons r2 Ex.rels_nil))) (Ex.placeSame_m g.pool g.seed ⟨a1, a2, a3⟩ ⟨b1, b2, b3⟩ ok0 ok1)
end Go.Proofs.Ytkgbeihcepociaa
end
