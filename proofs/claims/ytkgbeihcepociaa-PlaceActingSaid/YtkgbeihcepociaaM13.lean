/- Part 13 of the proof: Alr, Pla, Al2, Al3, Ofr, PlaceActingWalk. -/
import Derived.Test.YtkgbeihcepociaaM12
section

set_option linter.unusedSimpArgs false
set_option linter.unusedVariables false
set_option maxRecDepth 10000
set_option maxHeartbeats 4000000
namespace Go.Proofs.Ytkgbeihcepociaa.Ex
open Go
theorem among9_x {F : Nat → Prop} {H : AH} {v : AV} {xs : List Int} (x : Int) (hv : IsSl RInt F H v xs) (hl : xs.length < 2 ^ 62) :
    WC Try.prog (tabOf Try.prog NT0) S0 103 [.lit (.int .i64 x), v] H fun r h' => h' = H ∧ r = .lit (.bool (xs.contains x)) := by
  refine WC_fn Try.func103 rfl rfl ?_
  have s1 := hv.isSl
  have s2 := hv.lenD
  simp only [core, Nat.reduceAdd, Nat.reduceSub, Nat.reduceMul, Nat.reduceLT, Nat.reduceEqDiff, reduceCtorEq, Nat.reduceLeDiff, Int.reduceLE, Int.reduceLT, Int.reduceToNat, Try.ntmps103, s1, s2]
  refine WB_for xs.length (fun i t h => h = H ∧ (xs.drop i).contains x = xs.contains x ∧ t.n = 17 ∧ t.get 0 = .lit (.int .i64 x) ∧ t.get 7 = v ∧ t.get 8 = .lit (.int .i64 xs.length) ∧ t.get 9 = .lit (.int .i64 i)) ?_ ?_ _ _ ?_
  · rintro i t h hlt hc ⟨rfl, hx, hn, g0, g7, g8, g9⟩ ih
    have hld := hv.int (T := tabOf Try.prog NT0) (e := 3) (by kernel_rfl) (by kernel_rfl) hlt
    have hw := wrap_succ hlt (by omega)
    simp only [core, Nat.reduceAdd, Nat.reduceSub, Nat.reduceMul, Nat.reduceLT, Nat.reduceEqDiff, reduceCtorEq, Nat.reduceLeDiff, Int.reduceLE, Int.reduceLT, Int.reduceToNat, s1, s2, hn, g0, g7, g8, g9, hlt, hc, hld, hw]
    rw [drop_contains hlt] at hx
    refine ⟨fun he => ?_, fun he => ?_⟩
    · rw [Bool.beq_comm] at he
      rw [he] at hx
      rw [← hx]; rfl
    · refine ih _ _ ?_
      rw [Bool.beq_comm] at he
      rw [he] at hx
      simp only [core, Nat.reduceAdd, Nat.reduceSub, Nat.reduceMul, Nat.reduceLT, Nat.reduceEqDiff, reduceCtorEq, Nat.reduceLeDiff, Int.reduceLE, Int.reduceLT, Int.reduceToNat, hn, g0, g7, g8, g9]
      exact hx
  · rintro t h hc ⟨rfl, hx, hn, g0, g7, g8, g9⟩
    simp only [core, Nat.reduceAdd, Nat.reduceSub, Nat.reduceMul, Nat.reduceLT, Nat.reduceEqDiff, reduceCtorEq, Nat.reduceLeDiff, Int.reduceLE, Int.reduceLT, Int.reduceToNat, s1, s2, hn, g0, g7, g8, g9, hc]
    rw [← hx]
    simp
  · simp only [core, Nat.reduceAdd, Nat.reduceSub, Nat.reduceMul, Nat.reduceLT, Nat.reduceEqDiff, reduceCtorEq, Nat.reduceLeDiff, Int.reduceLE, Int.reduceLT, Int.reduceToNat]
    simp
theorem primary_x {F : Nat → Prop} {H : AH} {m : MapD} {vo vp vb : AV} (pool seed : Int) (hm : MpAt F H m vo vp vb) (hok : OkM m) (hlo : Sm 40 m.osds) (hpo : Sm 32 m.pools) :
    WC Try.prog (tabOf Try.prog NT0) S0 48 [mpV m vo vp vb, pgV pool seed] H fun v h' => Ext H.n H h' ∧ v = .tup [.lit (.int .i64 ((actF m pool seed).getD 0 0)), .lit (.bool (!(actF m pool seed).isEmpty))] := by
  refine WC_fn Try.func48 rfl rfl ?_
  have o1 := hm.o.one
  have o2 := hm.p.one
  have o3 := hm.b.one
  simp only [core, Nat.reduceAdd, Nat.reduceSub, Nat.reduceMul, Nat.reduceLT, Nat.reduceEqDiff, reduceCtorEq, Nat.reduceLeDiff, Int.reduceLE, Int.reduceLT, Int.reduceToNat, Try.ntmps48, mpV, pgV, o1, o2, o3]
  obtain ⟨h1, hh1⟩ : ∃ h1, h1 = (H.push (.cells [.lit (.int .i64 m.epoch), vo, vp, vb, .lit (.int .i64 m.leaf)] 31)).push (.cells [.lit (.int .i64 pool), .lit (.int .i64 seed)] 56) := ⟨_, rfl⟩
  have E1 : Ext H.n H h1 := hh1 ▸ ((Ext.refl _ _).push _ (Nat.le_refl _)).push _ (by rw [n_push]; omega)
  rw [← hh1]
  clear hh1
  refine (act_x pool seed (hm.ext E1 (Nat.le_refl _)) hok hlo hpo).mono ?_
  rintro v h2 ⟨e2, hv⟩
  have E2 := E1.step e2
  have v1 := hv.isSl
  have v2 := hv.lenD
  have v3 := hv.one
  by_cases hz : actF m pool seed = []
  · have hzb : (((0 : Nat) : Int) == 0) = true := by decide
    have hz0 : (actF m pool seed).length = 0 := by rw [hz]; rfl
    simp only [core, Nat.reduceAdd, Nat.reduceSub, Nat.reduceMul, Nat.reduceLT, Nat.reduceEqDiff, reduceCtorEq, Nat.reduceLeDiff, Int.reduceLE, Int.reduceLT, Int.reduceToNat, v1, v2, v3, hz0, hzb]
    exact ⟨E2, by rw [hz]; rfl⟩
  have hpos : 0 < (actF m pool seed).length := List.length_pos_iff.2 hz
  have hzb : (((actF m pool seed).length : Int) == 0) = false := by rw [beq_eq_false_iff_ne]; omega
  have hld := hv.int (T := tabOf Try.prog NT0) (e := 3) (by kernel_rfl) (by kernel_rfl) hpos
  rw [Nat.add_zero] at hld
  have hne : (actF m pool seed).isEmpty = false := by
    cases hc : actF m pool seed with
    | nil => exact absurd hc hz
    | cons => rfl
  simp only [core, Nat.reduceAdd, Nat.reduceSub, Nat.reduceMul, Nat.reduceLT, Nat.reduceEqDiff, reduceCtorEq, Nat.reduceLeDiff, Int.reduceLE, Int.reduceLT, Int.reduceToNat, v1, v2, v3, hpos, hzb, hld, hne]
  exact E2
theorem primaryR_x {F : Nat → Prop} {H : AH} {m : MapD} {vo vp vb : AV} (pool seed : Int) (hm : MpAt F H m vo vp vb) (hok : OkM m) (hlo : Sm 40 m.osds) (hpo : Sm 32 m.pools) :
    WC Try.prog (tabOf Try.prog NT0) S0 49 [mpV m vo vp vb, pgV pool seed] H fun v h' => Ext H.n H h' ∧ v = .tup [.lit (.int .i64 ((actF m pool seed).getD 0 0)), .lit (.bool (!(actF m pool seed).isEmpty))] := by
  refine WC_fn Try.func49 rfl rfl ?_
  have o1 := hm.o.one
  have o2 := hm.p.one
  have o3 := hm.b.one
  simp only [core, Nat.reduceAdd, Nat.reduceSub, Nat.reduceMul, Nat.reduceLT, Nat.reduceEqDiff, reduceCtorEq, Nat.reduceLeDiff, Int.reduceLE, Int.reduceLT, Int.reduceToNat, Try.ntmps49, mpV, pgV, o1, o2, o3]
  obtain ⟨h1, hh1⟩ : ∃ h1, h1 = (H.push (.cells [.lit (.int .i64 m.epoch), vo, vp, vb, .lit (.int .i64 m.leaf)] 31)).push (.cells [.lit (.int .i64 pool), .lit (.int .i64 seed)] 56) := ⟨_, rfl⟩
  have E1 : Ext H.n H h1 := hh1 ▸ ((Ext.refl _ _).push _ (Nat.le_refl _)).push _ (by rw [n_push]; omega)
  rw [← hh1]
  clear hh1
  refine (actR_x pool seed (hm.ext E1 (Nat.le_refl _)) hok hlo hpo).mono ?_
  rintro v h2 ⟨e2, hv⟩
  have E2 := E1.step e2
  have v1 := hv.isSl
  have v2 := hv.lenD
  have v3 := hv.one
  by_cases hz : actF m pool seed = []
  · have hzb : (((0 : Nat) : Int) == 0) = true := by decide
    have hz0 : (actF m pool seed).length = 0 := by rw [hz]; rfl
    simp only [core, Nat.reduceAdd, Nat.reduceSub, Nat.reduceMul, Nat.reduceLT, Nat.reduceEqDiff, reduceCtorEq, Nat.reduceLeDiff, Int.reduceLE, Int.reduceLT, Int.reduceToNat, v1, v2, v3, hz0, hzb]
    exact ⟨E2, by rw [hz]; rfl⟩
  have hpos : 0 < (actF m pool seed).length := List.length_pos_iff.2 hz
  have hzb : (((actF m pool seed).length : Int) == 0) = false := by rw [beq_eq_false_iff_ne]; omega
  have hld := hv.int (T := tabOf Try.prog NT0) (e := 3) (by kernel_rfl) (by kernel_rfl) hpos
  rw [Nat.add_zero] at hld
  have hne : (actF m pool seed).isEmpty = false := by
    cases hc : actF m pool seed with
    | nil => exact absurd hc hz
    | cons => rfl
  simp only [core, Nat.reduceAdd, Nat.reduceSub, Nat.reduceMul, Nat.reduceLT, Nat.reduceEqDiff, reduceCtorEq, Nat.reduceLeDiff, Int.reduceLE, Int.reduceLT, Int.reduceToNat, v1, v2, v3, hpos, hzb, hld, hne]
  exact E2
theorem pgs_x {F G : Nat → Prop} {H : AH} {u v : AV} {xs ys : List PgD} (hu : IsSl RPg F H u xs) (hv : IsSl RPg G H v ys) (hl : xs.length < 2 ^ 62) :
    WC Try.prog (tabOf Try.prog NT0) S0 53 [u, v] H fun r h' => h' = H ∧ r = .lit (.bool (decide (xs = ys))) := by
  refine WC_fn Try.func53 rfl rfl ?_
  have s1 := hu.isSl
  have s2 := hu.lenD
  have s3 := hv.isSl
  have s4 := hv.lenD
  simp only [core, Nat.reduceAdd, Nat.reduceSub, Nat.reduceMul, Nat.reduceLT, Nat.reduceEqDiff, reduceCtorEq, Nat.reduceLeDiff, Int.reduceLE, Int.reduceLT, Int.reduceToNat, Try.ntmps53, s1, s2, s3, s4]
  refine ⟨fun he => ?_, fun he => ?_⟩
  · have : ¬ xs = ys := fun hh => by subst hh; simp at he
    rw [decide_eq_false this]
  · have he : xs.length = ys.length := by simp at he; omega
    refine WB_for xs.length (fun i t h => h = H ∧ (xs.take i = ys.take i) ∧ t.n = 26 ∧ t.get 0 = u ∧ t.get 1 = v ∧ t.get 12 = .lit (.int .i64 xs.length) ∧ t.get 13 = .lit (.int .i64 i)) ?_ ?_ _ _ ?_
    · rintro i t h hlt hc ⟨rfl, hx, hn, g0, g1, g12, g13⟩ ih
      have hlt2 : i < ys.length := by omega
      obtain ⟨x, hxi⟩ : ∃ x, xs[i]? = some x := ⟨_, List.getElem?_eq_getElem hlt⟩
      obtain ⟨y, hyi⟩ : ∃ y, ys[i]? = some y := ⟨_, List.getElem?_eq_getElem hlt2⟩
      obtain ⟨c, hc1, hld, hld0⟩ := hu.atE (T := tabOf Try.prog NT0) (Ext.refl _ _) (show RPg.z = 2 from rfl) hxi
      obtain ⟨c2, hc2, hle, hle0⟩ := hv.atE (T := tabOf Try.prog NT0) (Ext.refl _ _) (show RPg.z = 2 from rfl) hyi
      obtain ⟨rfl, -⟩ := RPg_is.1 hc1
      obtain ⟨rfl, -⟩ := RPg_is.1 hc2
      have hw := wrap_succ hlt (by omega)
      simp only [core, Nat.reduceAdd, Nat.reduceSub, Nat.reduceMul, Nat.reduceLT, Nat.reduceEqDiff, reduceCtorEq, Nat.reduceLeDiff, Int.reduceLE, Int.reduceLT, Int.reduceToNat, s1, s2, s3, s4, hn, g0, g1, g12, g13, hlt, hlt2, hc, hld, hld0, hle, hle0, hw]
      rw [WB_regionD [0, 1, 2, 3, 4, 5, 6, 7, 8] 1205237335491016659828736 (by kernel_rfl)]
      by_cases hxy : x = y
      · subst hxy
        have hb : ((x.pool == x.pool) && (x.seed == x.seed)) = true := by simp
        repeat ((with_reducible refine WDM_cons ?_; simp only [dw1]; try simp only [dw2, Nat.reduceAdd, Nat.reduceMul, Nat.reduceShiftRight, Nat.reduceMod, Nat.reduceEqDiff]); simp only [core, Nat.reduceAdd, Nat.reduceSub, Nat.reduceMul, Nat.reduceLT, Nat.reduceEqDiff, reduceCtorEq, Nat.reduceLeDiff, Int.reduceLE, Int.reduceLT, Int.reduceToNat, cored, s1, s2, s3, s4, hn, g0, g1, g12, g13, hlt, hlt2, hc, hld, hld0, hle, hle0, hw, a_neM, neM_eq, hb])
        refine ih _ _ ⟨rfl, ?_, ?_⟩
        · rw [List.take_add_one, List.take_add_one, hxi, hyi, hx]
        · simp only [core, Nat.reduceAdd, Nat.reduceSub, Nat.reduceMul, Nat.reduceLT, Nat.reduceEqDiff, reduceCtorEq, Nat.reduceLeDiff, Int.reduceLE, Int.reduceLT, Int.reduceToNat, hn, g0, g1, g12, g13]
      · have hb : ((x.pool == y.pool) && (x.seed == y.seed)) = false := by
          cases hbb : ((x.pool == y.pool) && (x.seed == y.seed)) with
          | false => rfl
          | true =>
            rw [Bool.and_eq_true] at hbb
            refine absurd ?_ hxy
            have q1 := eq_of_beq hbb.1
            have q2 := eq_of_beq hbb.2
            cases x; cases y
            simp only at q1 q2
            rw [q1, q2]
        repeat ((with_reducible refine WDM_cons ?_; simp only [dw1]; try simp only [dw2, Nat.reduceAdd, Nat.reduceMul, Nat.reduceShiftRight, Nat.reduceMod, Nat.reduceEqDiff]); simp only [core, Nat.reduceAdd, Nat.reduceSub, Nat.reduceMul, Nat.reduceLT, Nat.reduceEqDiff, reduceCtorEq, Nat.reduceLeDiff, Int.reduceLE, Int.reduceLT, Int.reduceToNat, cored, s1, s2, s3, s4, hn, g0, g1, g12, g13, hlt, hlt2, hc, hld, hld0, hle, hle0, hw, a_neM, neM_eq, hb])
        have : ¬ xs = ys := fun hh => by
          subst hh
          rw [hxi] at hyi
          exact hxy (Option.some.inj hyi)
        rw [decide_eq_false this]
    · rintro t h hc ⟨rfl, hx, hn, g0, g1, g12, g13⟩
      simp only [core, Nat.reduceAdd, Nat.reduceSub, Nat.reduceMul, Nat.reduceLT, Nat.reduceEqDiff, reduceCtorEq, Nat.reduceLeDiff, Int.reduceLE, Int.reduceLT, Int.reduceToNat, s1, s2, hn, g0, g1, g12, g13, hc]
      rw [List.take_length, he, List.take_length] at hx
      rw [decide_eq_true hx]
    · simp only [core, Nat.reduceAdd, Nat.reduceSub, Nat.reduceMul, Nat.reduceLT, Nat.reduceEqDiff, reduceCtorEq, Nat.reduceLeDiff, Int.reduceLE, Int.reduceLT, Int.reduceToNat]
      simp
end Go.Proofs.Ytkgbeihcepociaa.Ex
end

section

set_option linter.unusedSimpArgs false
set_option linter.unusedVariables false
set_option maxRecDepth 10000
namespace Go.Proofs.Ytkgbeihcepociaa.Ex
open Go
theorem bub_app (x : PoolD) : ∀ ru w, bub x ru w = bub x ru [] ++ w
  | [], w => rfl
  | y :: ru, w => by
    unfold bub
    by_cases h : x.id < y.id
    · rw [if_pos h, if_pos h, bub_app x ru (y :: w), bub_app x ru [y], List.append_assoc]
      rfl
    · rw [if_neg h, if_neg h, List.append_assoc]
      rfl
theorem bub_find {x : PoolD} (id : Int) : ∀ ru w, (bub x ru w).find? (fun b => b.id == id) = (ru.reverse ++ x :: w).find? (fun b => b.id == id)
  | [], w => rfl
  | y :: ru, w => by
    unfold bub
    by_cases h : x.id < y.id
    · rw [if_pos h, bub_find id ru (y :: w), List.reverse_cons, List.append_assoc, List.find?_append, List.find?_append]
      congr 1
      show (x :: y :: w).find? _ = (y :: x :: w).find? _
      rw [List.find?_cons, List.find?_cons, List.find?_cons, List.find?_cons]
      by_cases hx : x.id = id
      · have hy : ¬ y.id = id := by omega
        rw [show (x.id == id) = true from beq_iff_eq.2 hx, show (y.id == id) = false from beq_eq_false_iff_ne.2 hy]
      · rw [show (x.id == id) = false from beq_eq_false_iff_ne.2 hx]
    · rw [if_neg h]
theorem bub_sorted {x : PoolD} : ∀ ru, List.Pairwise (fun a b : PoolD => a.id ≤ b.id) ru.reverse → List.Pairwise (fun a b : PoolD => a.id ≤ b.id) (bub x ru [])
  | [], _ => List.pairwise_singleton _ _
  | y :: ru, hs => by
    rw [List.reverse_cons, List.pairwise_append] at hs
    obtain ⟨s1, -, s3⟩ := hs
    unfold bub
    by_cases h : x.id < y.id
    · rw [if_pos h, bub_app, List.pairwise_append]
      refine ⟨bub_sorted ru s1, List.pairwise_singleton _ _, fun a ha b hb => ?_⟩
      rw [List.mem_singleton] at hb
      subst hb
      rcases (bub_mem ru []).1 ha with rfl | ha | ha
      · omega
      · exact s3 a (List.mem_reverse.2 ha) _ (List.mem_singleton.2 rfl)
      · cases ha
    · rw [if_neg h, List.reverse_cons, List.pairwise_append, List.pairwise_append]
      refine ⟨⟨s1, List.pairwise_singleton _ _, s3⟩, List.pairwise_singleton _ _, fun a ha b hb => ?_⟩
      rw [List.mem_singleton] at hb
      subst hb
      rw [List.mem_append, List.mem_singleton] at ha
      rcases ha with ha | rfl
      · have := s3 a ha y (List.mem_singleton.2 rfl)
        omega
      · omega
theorem mid_split {l : List PoolD} {i : Nat} (h : i < l.length) : l.take i ++ l.getD i pool0 :: l.drop (i + 1) = l := by
  have h1 := List.take_append_drop i l
  rw [List.drop_eq_getElem_cons h] at h1
  rw [List.getD_eq_getElem?_getD, List.getElem?_eq_getElem h]
  exact h1
theorem iso_find {ps : List PoolD} (id : Int) : ∀ i, i ≤ ps.length → (isoN ps i).find? (fun b => b.id == id) = ps.find? (fun b => b.id == id)
  | 0, _ => rfl
  | i + 1, h => by
    have hl := iso_len ps i (by omega)
    rw [← iso_find (ps := ps) id i (by omega)]
    show (stepP (isoN ps i) i).find? _ = _
    unfold stepP
    rw [bub_find, List.reverse_reverse, mid_split (by omega)]
theorem iso_sorted {ps : List PoolD} : ∀ i, i ≤ ps.length → List.Pairwise (fun a b : PoolD => a.id ≤ b.id) ((isoN ps i).take i)
  | 0, _ => by rw [List.take_zero]; exact List.Pairwise.nil
  | i + 1, h => by
    have hl := iso_len ps i (by omega)
    rw [isoN]
    unfold stepP
    rw [bub_app, List.take_append_of_le_length (by rw [bub_len, List.length_reverse, List.length_take, List.length_nil]; omega), List.take_of_length_le (by rw [bub_len, List.length_reverse, List.length_take, List.length_nil]; omega)]
    refine bub_sorted _ ?_
    rw [List.reverse_reverse]
    exact iso_sorted i (by omega)
def fsN (l : List PoolD) : Nat → List PoolD
  | 0 => []
  | i + 1 => if 0 < i ∧ (l.getD (i - 1) pool0).id = (l.getD i pool0).id then fsN l i else fsN l i ++ [l.getD i pool0]
theorem outN_fs (l : List PoolD) : ∀ i, outN l i = (fsN l i).flatMap pgsOf
  | 0 => rfl
  | i + 1 => by
    unfold outN fsN
    by_cases h : 0 < i ∧ (l.getD (i - 1) pool0).id = (l.getD i pool0).id
    · rw [if_pos h, if_pos h, outN_fs l i]
    · rw [if_neg h, if_neg h, outN_fs l i, List.flatMap_append, List.flatMap_cons, List.flatMap_nil, List.append_nil]
theorem fsN_len (l : List PoolD) : ∀ i, (fsN l i).length ≤ i
  | 0 => Nat.le_refl 0
  | i + 1 => by
    have := fsN_len l i
    unfold fsN
    split
    · omega
    · rw [List.length_append]; show _ + 1 ≤ _; omega
theorem take_getD {l : List PoolD} {i : Nat} (h : i < l.length) : l.take (i + 1) = l.take i ++ [l.getD i pool0] := by
  rw [List.take_add_one, List.getElem?_eq_getElem h, List.getD_eq_getElem?_getD, List.getElem?_eq_getElem h]
  rfl
theorem fsN_law {l : List PoolD} (hs : List.Pairwise (fun a b : PoolD => a.id ≤ b.id) l) : ∀ i, i ≤ l.length →
    List.Pairwise (fun a b : PoolD => a.id < b.id) (fsN l i) ∧ (∀ z ∈ fsN l i, z ∈ l.take i ∧ l.find? (fun b => b.id == z.id) = some z) ∧ (∀ y ∈ l.take i, ∃ z ∈ fsN l i, z.id = y.id)
  | 0, _ => ⟨List.Pairwise.nil, fun z (hz : z ∈ []) => absurd hz List.not_mem_nil, fun y hy => by rw [List.take_zero] at hy; cases hy⟩
  | i + 1, h => by
    obtain ⟨p1, p2, p3⟩ := fsN_law hs i (by omega)
    have hT := take_getD (l := l) (i := i) (by omega)
    have hle : ∀ y ∈ l.take i, y.id ≤ (l.getD i pool0).id := by
      have := hs
      rw [← mid_split (l := l) (i := i) (by omega), List.pairwise_append] at this
      exact fun y hy => this.2.2 y hy _ (List.mem_cons_self ..)
    unfold fsN
    by_cases hc : 0 < i ∧ (l.getD (i - 1) pool0).id = (l.getD i pool0).id
    · rw [if_pos hc]
      refine ⟨p1, fun z hz => ⟨by rw [hT, List.mem_append]; exact .inl (p2 z hz).1, (p2 z hz).2⟩, fun y hy => ?_⟩
      rw [hT, List.mem_append, List.mem_singleton] at hy
      rcases hy with hy | rfl
      · exact p3 y hy
      · obtain ⟨z, hz, he⟩ := p3 (l.getD (i - 1) pool0) (by
          obtain ⟨j, rfl⟩ : ∃ j, i = j + 1 := ⟨i - 1, by omega⟩
          rw [take_getD (by omega), Nat.add_sub_cancel]
          exact List.mem_append_right _ (List.mem_singleton.2 rfl))
        exact ⟨z, hz, he.trans hc.2⟩
    · rw [if_neg hc]
      have hlt : ∀ y ∈ l.take i, y.id < (l.getD i pool0).id := fun y hy => by
        have hi : 0 < i := by
          rcases Nat.eq_zero_or_pos i with rfl | h0
          · rw [List.take_zero] at hy; cases hy
          · exact h0
        obtain ⟨j, rfl⟩ : ∃ j, i = j + 1 := ⟨i - 1, by omega⟩
        have hne : ¬ (l.getD j pool0).id = (l.getD (j + 1) pool0).id := fun hh => hc ⟨hi, by rw [Nat.add_sub_cancel]; exact hh⟩
        have hj := take_getD (l := l) (i := j) (by omega)
        have h1 := hle (l.getD j pool0) (by rw [hj]; exact List.mem_append_right _ (List.mem_singleton.2 rfl))
        have h2 : y.id ≤ (l.getD j pool0).id := by
          rw [hj, List.mem_append, List.mem_singleton] at hy
          rcases hy with hy | rfl
          · have := hs
            rw [← mid_split (l := l) (i := j) (by omega), List.pairwise_append] at this
            exact this.2.2 y hy _ (List.mem_cons_self ..)
          · exact Int.le_refl _
        omega
      refine ⟨?_, ?_, ?_⟩
      · rw [List.pairwise_append]
        refine ⟨p1, List.pairwise_singleton _ _, fun a ha b hb => ?_⟩
        rw [List.mem_singleton] at hb
        subst hb
        exact hlt a (p2 a ha).1
      · intro z hz
        rw [List.mem_append, List.mem_singleton] at hz
        rcases hz with hz | rfl
        · exact ⟨by rw [hT, List.mem_append]; exact .inl (p2 z hz).1, (p2 z hz).2⟩
        · refine ⟨by rw [hT]; exact List.mem_append_right _ (List.mem_singleton.2 rfl), ?_⟩
          obtain ⟨x, hx⟩ : ∃ x, x = l.getD i pool0 := ⟨_, rfl⟩
          have hm := mid_split (l := l) (i := i) (by omega)
          rw [← hx] at hm hlt ⊢
          rw [← hm, List.find?_append, List.find?_eq_none.2 (fun y hy => by
            have := hlt y hy
            simp only [beq_iff_eq]
            omega), List.find?_cons, show (x.id == x.id) = true from beq_self_eq_true _]
          rfl
      · intro y hy
        rw [hT, List.mem_append, List.mem_singleton] at hy
        rcases hy with hy | rfl
        · obtain ⟨z, hz, he⟩ := p3 y hy
          exact ⟨z, List.mem_append_left _ hz, he⟩
        · exact ⟨_, List.mem_append_right _ (List.mem_singleton.2 rfl), rfl⟩
def fsF (ps : List PoolD) : List PoolD := fsN (isoF ps) ps.length
theorem allC_fs (m : MapD) : allC m = (fsF m.pools).flatMap pgsOf := outN_fs _ _
theorem fsF_len (ps : List PoolD) : (fsF ps).length ≤ ps.length := fsN_len _ _
theorem fsF_law (ps : List PoolD) : List.Pairwise (fun a b : PoolD => a.id < b.id) (fsF ps) ∧ (∀ z ∈ fsF ps, z ∈ ps ∧ ps.find? (fun b => b.id == z.id) = some z) ∧ (∀ y ∈ ps, ∃ z ∈ fsF ps, z.id = y.id) := by
  have hl : (isoF ps).length = ps.length := iso_len _ _ (Nat.le_refl _)
  have hs := iso_sorted (ps := ps) ps.length (Nat.le_refl _)
  rw [List.take_of_length_le (by rw [iso_len _ _ (Nat.le_refl _)]; omega)] at hs
  obtain ⟨p1, p2, p3⟩ := fsN_law hs ps.length (by rw [iso_len _ _ (Nat.le_refl _)]; omega)
  rw [List.take_of_length_le (by rw [iso_len _ _ (Nat.le_refl _)]; omega)] at p2 p3
  refine ⟨p1, fun z hz => ⟨(iso_mem _ (Nat.le_refl _)).1 (p2 z hz).1, ?_⟩, fun y hy => p3 y ((iso_mem _ (Nat.le_refl _)).2 hy)⟩
  rw [← iso_find z.id ps.length (Nat.le_refl _)]
  exact (p2 z hz).2
/-- The least id that is not among those done. -/
def lst (done : List Int) : List PoolD → Option Int → Option Int
  | [], acc => acc
  | p :: r, acc => if done.contains p.id = false ∧ (∀ a, acc = some a → p.id < a) then lst done r (some p.id) else lst done r acc
theorem lst_spec (done : List Int) : ∀ (l : List PoolD) (acc : Option Int),
    (lst done l acc = none → acc = none ∧ ∀ p ∈ l, p.id ∈ done) ∧
    (∀ x, lst done l acc = some x → (acc = some x ∨ ∃ p ∈ l, p.id = x ∧ x ∉ done) ∧ (∀ a, acc = some a → x ≤ a) ∧ ∀ p ∈ l, p.id ∉ done → x ≤ p.id)
  | [], acc => by
    unfold lst
    exact ⟨fun h => ⟨h, fun p hp => by cases hp⟩, fun x h => ⟨.inl h, fun a ha => by rw [h] at ha; cases ha; exact Int.le_refl _, fun p hp => by cases hp⟩⟩
  | p :: r, acc => by
    unfold lst
    by_cases hc : done.contains p.id = false ∧ (∀ a, acc = some a → p.id < a)
    · rw [if_pos hc]
      obtain ⟨c1, c2⟩ := hc
      have c1 : p.id ∉ done := by simpa using c1
      obtain ⟨q1, q2⟩ := lst_spec done r (some p.id)
      refine ⟨fun h => absurd (q1 h).1 (by simp), fun x h => ?_⟩
      obtain ⟨r1, r2, r3⟩ := q2 x h
      have hx := r2 p.id rfl
      refine ⟨.inr ?_, fun a ha => by have := c2 a ha; omega, fun y hy hn => ?_⟩
      · rcases r1 with r1 | ⟨y, hy, he, hn⟩
        · cases r1; exact ⟨p, List.mem_cons_self .., rfl, c1⟩
        · exact ⟨y, List.mem_cons_of_mem _ hy, he, hn⟩
      · rcases List.mem_cons.1 hy with rfl | hy
        · exact hx
        · exact r3 y hy hn
    · rw [if_neg hc]
      obtain ⟨q1, q2⟩ := lst_spec done r acc
      refine ⟨fun h => ⟨(q1 h).1, fun y hy => ?_⟩, fun x h => ?_⟩
      · rcases List.mem_cons.1 hy with rfl | hy
        · refine Decidable.byContradiction fun hn => hc ⟨by simpa using hn, fun a ha => ?_⟩
          rw [(q1 h).1] at ha
          cases ha
        · exact (q1 h).2 y hy
      · obtain ⟨r1, r2, r3⟩ := q2 x h
        refine ⟨?_, r2, fun y hy hn => ?_⟩
        · rcases r1 with r1 | ⟨y, hy, he, hn⟩
          · exact .inl r1
          · exact .inr ⟨y, List.mem_cons_of_mem _ hy, he, hn⟩
        · rcases List.mem_cons.1 hy with rfl | hy
          · cases hacc : acc with
            | none => exact absurd ⟨by simpa using hn, fun a ha => by rw [hacc] at ha; cases ha⟩ hc
            | some a =>
              have h1 := r2 a hacc
              have h2 : ¬ y.id < a := fun hh => hc ⟨by simpa using hn, fun b hb => by rw [hacc] at hb; cases hb; exact hh⟩
              omega
          · exact r3 y hy hn
theorem lst_fs (ps : List PoolD) (j : Nat) : lst (((fsF ps).take j).map (·.id)) ps none = ((fsF ps)[j]?).map (·.id) := by
  obtain ⟨f1, f2, f3⟩ := fsF_law ps
  obtain ⟨q1, q2⟩ := lst_spec (((fsF ps).take j).map (·.id)) ps none
  have hD := List.take_append_drop j (fsF ps)
  by_cases hj : j < (fsF ps).length
  · have hgj := List.getElem?_eq_getElem hj
    rw [hgj]
    rw [List.drop_eq_getElem_cons hj] at hD
    obtain ⟨d, hd⟩ : ∃ d, d = (fsF ps)[j] := ⟨_, rfl⟩
    rw [← hd] at hD ⊢
    have hp := f1
    rw [← hD, List.pairwise_append, List.pairwise_cons] at hp
    obtain ⟨-, ⟨hp1, -⟩, hp2⟩ := hp
    have hdm : d ∈ fsF ps := by rw [← hD]; exact List.mem_append_right _ (List.mem_cons_self ..)
    have hdn : d.id ∉ ((fsF ps).take j).map (·.id) := fun hh => by
      obtain ⟨y, hy, he⟩ := List.mem_map.1 hh
      have := hp2 y hy d (List.mem_cons_self ..)
      omega
    cases hr : lst (((fsF ps).take j).map (·.id)) ps none with
    | none => exact absurd ((q1 hr).2 d (f2 d hdm).1) hdn
    | some x =>
      obtain ⟨r1, r2, r3⟩ := q2 x hr
      have h1 := r3 d (f2 d hdm).1 hdn
      rcases r1 with r1 | ⟨p, hpp, rfl, hn⟩
      · cases r1
      · obtain ⟨z, hz, he⟩ := f3 p hpp
        rw [← hD, List.mem_append, List.mem_cons] at hz
        rcases hz with hz | rfl | hz
        · exact absurd (List.mem_map.2 ⟨z, hz, he⟩) hn
        · rw [← he]; rfl
        · have := hp1 z hz
          rw [show p.id = d.id by omega]; rfl
  · rw [List.getElem?_eq_none (by omega)]
    rw [List.take_of_length_le (by omega)] at q1 q2 ⊢
    cases hr : lst ((fsF ps).map (·.id)) ps none with
    | none => rfl
    | some x =>
      obtain ⟨r1, r2, r3⟩ := q2 x hr
      rcases r1 with r1 | ⟨p, hpp, rfl, hn⟩
      · cases r1
      · obtain ⟨z, hz, he⟩ := f3 p hpp
        exact absurd (List.mem_map.2 ⟨z, hz, he⟩) hn
end Go.Proofs.Ytkgbeihcepociaa.Ex
end

section

set_option linter.unusedSimpArgs false
set_option linter.unusedVariables false
set_option maxRecDepth 10000
set_option maxHeartbeats 4000000
namespace Go.Proofs.Ytkgbeihcepociaa.Ex
open Go
/-- Two slices do not share a block. -/
def Dis (u v : AV) : Prop := ∀ b off n cap, v = .sl b off n cap → Apart u b
theorem Dis.symm {u v : AV} (h : Dis u v) : Dis v u := fun b off n cap e off' n' cap' e' => h b off' n' cap' e' off n cap e
theorem Dis.nil {u : AV} : Dis u (.lit (.slice none 0 0)) := fun b off n cap e => by cases e
theorem OwnL.lt {α : Type} {R : Rep α} {G : Nat → Prop} {n0 : Nat} {h : AH} {v : AV} {e : TypeId} {xs : List α} (ho : OwnL R G n0 h v e xs) : ∀ b off n cap, v = .sl b off n cap → b < h.n := fun b off n cap ev => by
  obtain ⟨L, h1, h2⟩ := ho
  rcases h1.2 with ⟨hh, _⟩ | ⟨p, hh, hp, hat⟩
  · rw [hh] at ev; cases ev
  · rw [hh] at ev
    cases ev
    exact at_lt hat
/-- Another slice is appended to: this one stays. -/
theorem OwnL.keep {α : Type} {R : Rep α} {n0 : Nat} {h h' : AH} {v s s' : AV} {e : TypeId} {xs : List α} (ho : OwnL R (fun _ => False) n0 h v e xs) (hd : Dis s v) (k : ∀ b, b < h.n → Apart s b → h'.at b = h.at b ∧ Apart s' b) : OwnL R (fun _ => False) n0 h' v e xs ∧ Dis s' v :=
  ⟨ho.lift (fun b off n cap ev => (k b (ho.lt b off n cap ev) (hd b off n cap ev)).1) (fun b hf => hf.elim), fun b off n cap ev => (k b (ho.lt b off n cap ev) (hd b off n cap ev)).2⟩
/-- A slice of numbers that began as an empty one. -/
def DnL (n0 p : Nat) (h : AH) (d : AV) (xs : List Int) : Prop := OwnL RInt (fun _ => False) n0 h d 3 xs ∨ (xs = [] ∧ d = .sl p 0 0 (.kn 0) ∧ h.at p = some (.cells [] 3))
theorem DnL.ext {n0 p m : Nat} {h h' : AH} {d : AV} {xs : List Int} (hd : DnL n0 p h d xs) (he : Ext m h h') (hm : h.n ≤ m) : DnL n0 p h' d xs := by
  rcases hd with ho | ⟨rfl, rfl, hp⟩
  · exact .inl (ho.ext he hm)
  · exact .inr ⟨rfl, rfl, (he.2 _ (by have := at_lt hp; omega)).trans hp⟩
theorem DnL.lt {n0 p : Nat} {h : AH} {d : AV} {xs : List Int} (hd : DnL n0 p h d xs) : ∀ b off n cap, d = .sl b off n cap → b < h.n := fun b off n cap e => by
  rcases hd with ho | ⟨rfl, rfl, hp⟩
  · exact ho.lt b off n cap e
  · cases e; exact at_lt hp
theorem DnL.keep {n0 p : Nat} {h h' : AH} {v s s' : AV} {xs : List Int} (hv : DnL n0 p h v xs) (hd : Dis s v) (k : ∀ b, b < h.n → Apart s b → h'.at b = h.at b ∧ Apart s' b) : DnL n0 p h' v xs ∧ Dis s' v := by
  refine ⟨?_, fun b off n cap ev => (k b (hv.lt b off n cap ev) (hd b off n cap ev)).2⟩
  rcases hv with ho | ⟨rfl, rfl, hp⟩
  · exact .inl (ho.keep hd k).1
  · exact .inr ⟨rfl, rfl, (k p (at_lt hp) (hd _ _ _ _ rfl)).1.trans hp⟩
theorem DnL.toSl {F : Nat → Prop} {n0 p : Nat} {h : AH} {d : AV} {xs : List Int} (hd : DnL n0 p h d xs) (h1 : ∀ b, n0 ≤ b → F b) (h2 : F p) : IsSl RInt F h d xs := by
  rcases hd with ho | ⟨rfl, rfl, hp⟩
  · exact ho.toSl (fun _ hf => hf.elim) h1
  · exact .mk (L := []) ⟨by simp, .inr ⟨p, 0, _, [], rfl, by unfold getR; rw [hp], by simp [cut]⟩⟩ (fun b off n cap e => by cases e; exact h2) (fun b off n cap e => by cases e; exact Nat.le_refl 0) .nil
theorem DnL.snoc {n0 p q : Nat} {h : AH} {d : AV} {xs : List Int} {y : Int} {cap : Cap} {e' : TypeId} (hd : DnL n0 p h d xs) (hq : h.at q = some (.cells [.lit (.int .i64 y)] e')) (hy : I64 y) (hn : xs.length ≤ 1000) (hn0 : n0 ≤ h.n) :
    ∃ s' h', appendA (tabOf Try.prog NT0) h 63 63 d (.sl q 0 1 cap) = some (s', h') ∧ OwnL RInt (fun _ => False) n0 h' s' 3 (xs ++ [y]) ∧ Ext n0 h h' ∧ ∀ b, b < h.n → Apart d b → h'.at b = h.at b ∧ Apart s' b := by
  rcases hd with ho | ⟨rfl, rfl, hp⟩
  · exact ho.snoc (by kernel_rfl) (by kernel_rfl) (by kernel_rfl) (zv := .lit (.int .i64 0)) (by kernel_rfl) (by' := 8) (by kernel_rfl) rfl (by decide) (by decide) hq (RInt_is.2 ⟨rfl, hy⟩) (by omega) (by omega) hn0
  · have hg : getR h q = some [.lit (.int .i64 y)] := by unfold getR; rw [hq]
    rcases append_fresh (T := tabOf Try.prog NT0) (h := h) (t := 63) (tx := 63) (e := 3) (z := 1) (by' := 8) (zv := .lit (.int .i64 0)) (M := [[.lit (.int .i64 y)]]) (p := p) (x := .sl q 0 1 cap) (by kernel_rfl) (by kernel_rfl) (by kernel_rfl) (by kernel_rfl) (by kernel_rfl) rfl (by decide) (by decide) hp
      (by simp [srcA, hg, cut]) rfl (by simp) rfl (by simp) (by simp) with ⟨hM, ha⟩ | ⟨hM, ha⟩
    · cases hM
    · refine ⟨_, _, ha, OwnL.ofInts (xs := [y]) hn0 (at_push_n _ _) (fun x hx => by rw [List.mem_singleton] at hx; subst hx; exact hy), (Ext.refl _ _).push _ hn0, fun b hb _ => ⟨at_push_lt _ hb, fun off n cap e => by cases e; omega⟩⟩
theorem lst_cons {done : List Int} {ps : List PoolD} {acc : Option Int} {j : Nat} {p : PoolD} (hp : ps[j]? = some p) : lst done (ps.drop j) acc = if done.contains p.id = false ∧ (∀ a, acc = some a → p.id < a) then lst done (ps.drop (j + 1)) (some p.id) else lst done (ps.drop (j + 1)) acc := by
  obtain ⟨hj, hp⟩ := List.getElem?_eq_some_iff.1 hp
  rw [List.drop_eq_getElem_cons hj, hp, lst]
theorem lst_out {done : List Int} {ps : List PoolD} {acc : Option Int} {n : Nat} (hn : ps.length ≤ n) : lst done (ps.drop n) acc = acc := by
  rw [List.drop_of_length_le hn, lst]
end Go.Proofs.Ytkgbeihcepociaa.Ex
end

section

set_option linter.unusedSimpArgs false
set_option linter.unusedVariables false
set_option maxRecDepth 10000
set_option maxHeartbeats 4000000
namespace Go.Proofs.Ytkgbeihcepociaa.Ex
open Go
theorem allR_x {F : Nat → Prop} {H : AH} {m : MapD} {vo vp vb : AV} (hm : MpAt F H m vo vp vb) (hpl : m.pools.length < 20) (hpo : Sm 32 m.pools) :
    WC Try.prog (tabOf Try.prog NT0) S0 54 [mpV m vo vp vb] H fun v h' => Ext H.n H h' ∧ IsSl RPg (fun b => H.n ≤ b) h' v (allC m) := by
  refine WC_fn Try.func54 rfl rfl ?_
  have o1 := hm.o.one
  have o2 := hm.p.one
  have o3 := hm.b.one
  have i1 := hm.o.isSl
  have i2 := hm.p.isSl
  have i3 := hm.b.isSl
  have w2 := hm.p.lenD
  simp only [core, Nat.reduceAdd, Nat.reduceSub, Nat.reduceMul, Nat.reduceLT, Nat.reduceEqDiff, reduceCtorEq, Nat.reduceLeDiff, Int.reduceLE, Int.reduceLT, Int.reduceToNat, Try.ntmps54, mpV, o1, o2, o3, i2, w2]
  obtain ⟨h1, hh1⟩ : ∃ h1, h1 = (H.push (.cells [.lit (.int .i64 m.epoch), vo, vp, vb, .lit (.int .i64 m.leaf)] 31)).push (.cells [] 3) := ⟨_, rfl⟩
  have E1 : Ext H.n H h1 := hh1 ▸ ((Ext.refl _ _).push _ (Nat.le_refl _)).push _ (by rw [n_push]; omega)
  have A1 : h1.at H.n = some (.cells [.lit (.int .i64 m.epoch), vo, vp, vb, .lit (.int .i64 m.leaf)] 31) := hh1 ▸ (at_push_lt _ (by rw [n_push]; omega)).trans (at_push_n _ _)
  have B1 : h1.at (H.n + 1) = some (.cells [] 3) := hh1 ▸ at_push_n _ _
  have la1 := at_lt A1
  rw [← hh1]
  clear hh1
  obtain ⟨fs, hfs⟩ : ∃ fs, fs = fsF m.pools := ⟨_, rfl⟩
  have hfl : fs.length ≤ m.pools.length := hfs ▸ fsF_len _
  obtain ⟨-, hf2, -⟩ := fsF_law m.pools
  rw [← hfs] at hf2
  have hres : ∀ i h o, (i = m.pools.length ∨ fs[i]? = none) → OwnL RPg (fun _ => False) h1.n h o 56 ((fs.take i).flatMap pgsOf) → IsSl RPg (fun b => H.n ≤ b) h o (allC m) := fun i h o hi ho => by
    have : fs.take i = fs := List.take_of_length_le (by
      rcases hi with rfl | hi
      · exact hfl
      · exact List.getElem?_eq_none_iff.1 hi)
    rw [this, hfs, ← allC_fs] at ho
    exact ho.toSl (fun _ hf => hf.elim) (fun b hb => by have := E1.1; omega)
  refine WB_for m.pools.length (fun i t h => ∃ o d, OwnL RPg (fun _ => False) h1.n h o 56 ((fs.take i).flatMap pgsOf) ∧ DnL h1.n (H.n + 1) h d ((fs.take i).map (·.id)) ∧ Dis o d ∧ Ext h1.n h1 h ∧ t.n = 73 ∧ t.get 1 = .ptr H.n 0 ∧ t.get 3 = o ∧ t.get 4 = d ∧ t.get 15 = .lit (.int .i64 m.pools.length) ∧ t.get 16 = .lit (.int .i64 i)) ?_ ?_ _ _ ?_
  · rintro i t h hlt hc ⟨o, d, ho, hd, hdis, he, hn, g1, g3, g4, g15, g16⟩ ih
    have hws := wrap_succ hlt (by omega)
    have E2 := E1.step he
    have A2 := (he.2 _ la1).trans A1
    have la2 := at_lt A2
    have LA2 := ld_at (T := tabOf Try.prog NT0) A2
    obtain ⟨dn, hdn⟩ : ∃ dn, dn = (fs.take i).map (·.id) := ⟨_, rfl⟩
    have hdl : dn.length ≤ 20 := by rw [hdn, List.length_map, List.length_take]; omega
    have hlf : lst dn m.pools none = (fs[i]?).map (·.id) := by rw [hdn, hfs]; exact lst_fs _ _
    rw [← hdn] at hd
    have t1 := ho.one
    simp only [core, Nat.reduceAdd, Nat.reduceSub, Nat.reduceMul, Nat.reduceLT, Nat.reduceEqDiff, reduceCtorEq, Nat.reduceLeDiff, Int.reduceLE, Int.reduceLT, Int.reduceToNat, hn, g1, g3, g4, g15, g16, hc, LA2, la2, i2, w2]
    refine WB_for m.pools.length (fun j t h' => ∃ acc : Option Int, Ext h.n h h' ∧ lst dn (m.pools.drop j) acc = lst dn m.pools none ∧ t.n = 73 ∧ t.get 1 = .ptr H.n 0 ∧ t.get 3 = o ∧ t.get 4 = d ∧ t.get 5 = .lit (.int .i64 (acc.getD 0)) ∧ t.get 6 = .lit (.bool acc.isSome) ∧ t.get 15 = .lit (.int .i64 m.pools.length) ∧ t.get 16 = .lit (.int .i64 i) ∧ t.get 19 = vp ∧ t.get 20 = .lit (.int .i64 m.pools.length) ∧ t.get 21 = .lit (.int .i64 j)) ?_ ?_ _ _ ?_
    · rintro j t h2 hj hcj ⟨acc, he2, hl, hn, g1, g3, g4, g5, g6, g15, g16, g19, g20, g21⟩ ih2
      have hws2 := wrap_succ hj (by omega)
      have E3 := E2.step he2
      obtain ⟨x, hx⟩ : ∃ x, m.pools[j]? = some x := ⟨_, List.getElem?_eq_getElem hj⟩
      obtain ⟨c, hc1, hld, hld0⟩ := hm.p.atE (T := tabOf Try.prog NT0) E3 (show RPool.z = 4 from rfl) hx
      obtain ⟨rfl, I1, I2, I3, I4⟩ := RPool_is.1 hc1
      rw [lst_cons hx] at hl
      obtain ⟨hA, hhA⟩ : ∃ hA, hA = h2.push (.cells [.lit (.int .i64 x.id), .lit (.int .i64 x.size), .lit (.int .i64 x.min), .lit (.int .i64 x.pgs)] 94) := ⟨_, rfl⟩
      have eA : Ext h2.n h2 hA := hhA ▸ (Ext.refl _ _).push _ (Nat.le_refl _)
      have PA : hA.at h2.n = some (.cells [.lit (.int .i64 x.id), .lit (.int .i64 x.size), .lit (.int .i64 x.min), .lit (.int .i64 x.pgs)] 94) := hhA ▸ at_push_n _ _
      have lP := at_lt PA
      have LP := ld_at (T := tabOf Try.prog NT0) PA
      have heA := he2.step eA
      have hdA := (hd.ext he2 (Nat.le_refl _)).ext eA (Nat.le_refl _)
      have hdS : IsSl RInt (fun _ => True) hA d dn := hdA.toSl (fun _ _ => trivial) trivial
      simp only [core, Nat.reduceAdd, Nat.reduceSub, Nat.reduceMul, Nat.reduceLT, Nat.reduceEqDiff, reduceCtorEq, Nat.reduceLeDiff, Int.reduceLE, Int.reduceLT, Int.reduceToNat, hn, g1, g3, g4, g5, g6, g15, g16, g19, g20, g21, hcj, hj, hld, hld0, i2, w2]
      rw [← hhA]
      clear hhA
      refine (among9_x x.id hdS (by omega)).mono ?_
      rintro _ h3 ⟨rfl, rfl⟩
      rcases Bool.eq_false_or_eq_true (dn.contains x.id) with hcon | hcon
      · rw [if_neg (by rw [hcon]; simp)] at hl
        simp only [core, Nat.reduceAdd, Nat.reduceSub, Nat.reduceMul, Nat.reduceLT, Nat.reduceEqDiff, reduceCtorEq, Nat.reduceLeDiff, Int.reduceLE, Int.reduceLT, Int.reduceToNat, hn, g1, g3, g4, g5, g6, g15, g16, g19, g20, g21, aundef, hcon, hws2]
        refine ih2 _ _ ⟨acc, heA, hl, ?_⟩
        simp only [core, Nat.reduceAdd, Nat.reduceSub, Nat.reduceMul, Nat.reduceLT, Nat.reduceEqDiff, reduceCtorEq, Nat.reduceLeDiff, Int.reduceLE, Int.reduceLT, Int.reduceToNat, hn, g1, g3, g4, g5, g6, g15, g16, g19, g20, g21]
      · cases hacc : acc with
        | none =>
          rw [hacc] at g5 g6 hl
          rw [if_pos ⟨hcon, fun a ha => by cases ha⟩] at hl
          simp only [core, Nat.reduceAdd, Nat.reduceSub, Nat.reduceMul, Nat.reduceLT, Nat.reduceEqDiff, reduceCtorEq, Nat.reduceLeDiff, Int.reduceLE, Int.reduceLT, Int.reduceToNat, hn, g1, g3, g4, g5, g6, g15, g16, g19, g20, g21, aundef, hcon, hws2, LP, lP, Option.isSome_none]
          refine ih2 _ _ ⟨some x.id, heA, hl, ?_⟩
          simp only [core, Nat.reduceAdd, Nat.reduceSub, Nat.reduceMul, Nat.reduceLT, Nat.reduceEqDiff, reduceCtorEq, Nat.reduceLeDiff, Int.reduceLE, Int.reduceLT, Int.reduceToNat, hn, g1, g3, g4, g5, g6, g15, g16, g19, g20, g21, Option.isSome_some, Option.getD_some]
        | some a =>
          rw [hacc] at g5 g6 hl
          by_cases hxa : x.id < a
          · rw [if_pos ⟨hcon, fun b hb => by cases hb; exact hxa⟩] at hl
            simp only [core, Nat.reduceAdd, Nat.reduceSub, Nat.reduceMul, Nat.reduceLT, Nat.reduceEqDiff, reduceCtorEq, Nat.reduceLeDiff, Int.reduceLE, Int.reduceLT, Int.reduceToNat, hn, g1, g3, g4, g5, g6, g15, g16, g19, g20, g21, aundef, hcon, hws2, LP, lP, Option.isSome_some, Option.getD_some, hxa]
            refine ih2 _ _ ⟨some x.id, heA, hl, ?_⟩
            simp only [core, Nat.reduceAdd, Nat.reduceSub, Nat.reduceMul, Nat.reduceLT, Nat.reduceEqDiff, reduceCtorEq, Nat.reduceLeDiff, Int.reduceLE, Int.reduceLT, Int.reduceToNat, hn, g1, g3, g4, g5, g6, g15, g16, g19, g20, g21, Option.isSome_some, Option.getD_some]
          · rw [if_neg (fun hh => hxa (hh.2 a rfl))] at hl
            simp only [core, Nat.reduceAdd, Nat.reduceSub, Nat.reduceMul, Nat.reduceLT, Nat.reduceEqDiff, reduceCtorEq, Nat.reduceLeDiff, Int.reduceLE, Int.reduceLT, Int.reduceToNat, hn, g1, g3, g4, g5, g6, g15, g16, g19, g20, g21, aundef, hcon, hws2, LP, lP, Option.isSome_some, Option.getD_some, hxa]
            refine ih2 _ _ ⟨some a, heA, hl, ?_⟩
            simp only [core, Nat.reduceAdd, Nat.reduceSub, Nat.reduceMul, Nat.reduceLT, Nat.reduceEqDiff, reduceCtorEq, Nat.reduceLeDiff, Int.reduceLE, Int.reduceLT, Int.reduceToNat, hn, g1, g3, g4, g5, g6, g15, g16, g19, g20, g21, Option.isSome_some, Option.getD_some]
    · rintro t h2 hcj ⟨acc, he2, hl, hn, g1, g3, g4, g5, g6, g15, g16, g19, g20, g21⟩
      rw [lst_out (Nat.le_refl _), hlf] at hl
      have E3 := E2.step he2
      have A3 := (he2.2 _ la2).trans A2
      have la3 := at_lt A3
      have LA3 := ld_at (T := tabOf Try.prog NT0) A3
      cases hf : fs[i]? with
      | none =>
        rw [hf] at hl
        obtain rfl : acc = none := hl
        simp only [core, Nat.reduceAdd, Nat.reduceSub, Nat.reduceMul, Nat.reduceLT, Nat.reduceEqDiff, reduceCtorEq, Nat.reduceLeDiff, Int.reduceLE, Int.reduceLT, Int.reduceToNat, hn, g1, g3, g4, g5, g6, g15, g16, g19, g20, g21, hcj, Option.isSome_none, t1]
        exact ⟨E3, hres i _ o (.inr hf) (ho.ext he2 (Nat.le_refl _))⟩
      | some z =>
        rw [hf] at hl
        obtain rfl : acc = some z.id := hl
        obtain ⟨hz1, hz2⟩ := hf2 z (List.mem_of_getElem? hf)
        have hzi := pools_i64 hm z hz1
        have hpF : poolF m z.id = some z := hz2
        have hpG : poolG m z.id = z := by unfold poolG; rw [hpF]; rfl
        have ho2 := ho.ext he2 (Nat.le_refl _)
        have hd2 := hd.ext he2 (Nat.le_refl _)
        simp only [core, Nat.reduceAdd, Nat.reduceSub, Nat.reduceMul, Nat.reduceLT, Nat.reduceEqDiff, reduceCtorEq, Nat.reduceLeDiff, Int.reduceLE, Int.reduceLT, Int.reduceToNat, hn, g1, g3, g4, g5, g6, g15, g16, g19, g20, g21, hcj, Option.isSome_some, Option.getD_some]
        obtain ⟨h5, hh5⟩ : ∃ h5, h5 = h2.push (.cells [.lit (.int .i64 z.id)] 3) := ⟨_, rfl⟩
        have e5 : Ext h2.n h2 h5 := hh5 ▸ (Ext.refl _ _).push _ (Nat.le_refl _)
        have A5 : h5.at h2.n = some (.cells [.lit (.int .i64 z.id)] 3) := hh5 ▸ at_push_n _ _
        rw [← hh5]
        clear hh5
        have he5 := he2.step e5
        have q5 := (he.step he5).1
        refine WOp_app ((hd2.ext e5 (Nat.le_refl _)).snoc A5 hzi (by omega) q5) ?_
        rintro d6 h6 ⟨hd6, e6, k6⟩
        obtain ⟨ho6, hdis6⟩ := (ho2.ext e5 (Nat.le_refl _)).keep hdis.symm k6
        have E6 : Ext h1.n h1 h6 := (he.step he5).trans e6
        have EH6 := E1.step E6
        have A6 := (E6.2 _ la1).trans A1
        have la6 := at_lt A6
        have LA6 := ld_at (T := tabOf Try.prog NT0) A6
        have t6 := hd6.one
        simp only [core, Nat.reduceAdd, Nat.reduceSub, Nat.reduceMul, Nat.reduceLT, Nat.reduceEqDiff, reduceCtorEq, Nat.reduceLeDiff, Int.reduceLE, Int.reduceLT, Int.reduceToNat, hn, g1, g3, g4, g5, g6, g15, g16, g19, g20, g21, LA6, la6, t6]
        refine (poolR_x z.id (hm.ext EH6 (Nat.le_refl _)) hpo).mono ?_
        rintro _ h7 ⟨e7, rfl⟩
        rw [hpF, hpG]
        simp only [core, Nat.reduceAdd, Nat.reduceSub, Nat.reduceMul, Nat.reduceLT, Nat.reduceEqDiff, reduceCtorEq, Nat.reduceLeDiff, Int.reduceLE, Int.reduceLT, Int.reduceToNat, hn, g1, g3, g4, g5, g6, g15, g16, g19, g20, g21, poolV, Option.isSome_some]
        obtain ⟨h8, hh8⟩ : ∃ h8, h8 = h7.push (.cells [.lit (.int .i64 z.id), .lit (.int .i64 z.size), .lit (.int .i64 z.min), .lit (.int .i64 z.pgs)] 94) := ⟨_, rfl⟩
        have e8 : Ext h7.n h7 h8 := hh8 ▸ (Ext.refl _ _).push _ (Nat.le_refl _)
        have P8 : h8.at h7.n = some (.cells [.lit (.int .i64 z.id), .lit (.int .i64 z.size), .lit (.int .i64 z.min), .lit (.int .i64 z.pgs)] 94) := hh8 ▸ at_push_n _ _
        rw [← hh8]
        clear hh8
        have E8 : Ext h1.n h1 h8 := (E6.trans (e7.mono E6.1)).step e8
        have ho8 := (ho6.ext e7 (Nat.le_refl _)).ext e8 (Nat.le_refl _)
        have ho7 := ho6.ext e7 (Nat.le_refl _)
        have hd8 := (hd6.ext e7 (Nat.le_refl _)).ext e8 (Nat.le_refl _)
        have hol : ((fs.take i).flatMap pgsOf).length ≤ 160 := by
          have h1 := allC_len m
          rw [allC_fs, ← hfs, ← List.take_append_drop i fs, List.flatMap_append, List.length_append] at h1
          omega
        have hpl8 := pgsOf_len z
        have hO : (fs.take (i + 1)).flatMap pgsOf = (fs.take i).flatMap pgsOf ++ pgsOf z := by
          rw [List.take_add_one, hf, List.flatMap_append, Option.toList_some, List.flatMap_cons, List.flatMap_nil, List.append_nil]
        have hD : (fs.take (i + 1)).map (·.id) = dn ++ [z.id] := by
          rw [List.take_add_one, hf, List.map_append, hdn]
          rfl
        refine WB_ind (fun (k : Nat) t h' => ∃ o', OwnL RPg (fun _ => False) h1.n h' o' 56 ((fs.take i).flatMap pgsOf ++ (pgsOf z).take k) ∧ OwnL RInt (fun _ => False) h1.n h' d6 3 (dn ++ [z.id]) ∧ Dis o' d6 ∧ Ext h1.n h1 h' ∧ Apart o' h7.n ∧ h'.at h7.n = some (.cells [.lit (.int .i64 z.id), .lit (.int .i64 z.size), .lit (.int .i64 z.min), .lit (.int .i64 z.pgs)] 94) ∧ k ≤ 8 ∧ t.n = 73 ∧ t.get 1 = .ptr H.n 0 ∧ t.get 3 = o' ∧ t.get 4 = d6 ∧ t.get 5 = .lit (.int .i64 z.id) ∧ t.get 9 = .ptr h7.n 0 ∧ t.get 11 = .lit (.int .i64 k) ∧ t.get 15 = .lit (.int .i64 m.pools.length) ∧ t.get 16 = .lit (.int .i64 i)) (fun k => 8 - k) ?_ 0 _ _ ?_
        · rintro k t h' ⟨o', ho', hd', hdis', he', hap, B', hk8, hn, g1, g3, g4, g5, g9, g11, g15, g16⟩ ih3
          have LB' := ld_at (T := tabOf Try.prog NT0) B'
          have lB' := at_lt B'
          have hend : ∀ hcn : ¬ ((k : Int) < (if 8 < z.pgs then 8 else z.pgs)), OwnL RPg (fun _ => False) h1.n h' o' 56 ((fs.take (i + 1)).flatMap pgsOf) := fun hcn => by
            rw [pgsOf_all hcn, ← hO] at ho'
            exact ho'
          by_cases hk1 : (k : Int) < z.pgs
          · by_cases hk2 : (k : Int) < 8
            · have hwk : IntKind.i64.wrap ((k : Int) + 1) = ((k + 1 : Nat) : Int) := wrap_succ (n := 60) (by omega) (by omega)
              have hpg := pgsOf_get (x := z) (k := k) (by split <;> omega)
              simp only [core, Nat.reduceAdd, Nat.reduceSub, Nat.reduceMul, Nat.reduceLT, Nat.reduceEqDiff, reduceCtorEq, Nat.reduceLeDiff, Int.reduceLE, Int.reduceLT, Int.reduceToNat, hn, g1, g3, g4, g5, g9, g11, g15, g16, hk1, hk2, LB', lB']
              obtain ⟨h9, hh9⟩ : ∃ h9, h9 = h'.push (.cells [.lit (.int .i64 z.id), .lit (.int .i64 k)] 56) := ⟨_, rfl⟩
              have e9 : Ext h'.n h' h9 := hh9 ▸ (Ext.refl _ _).push _ (Nat.le_refl _)
              have A9 : h9.at h'.n = some (.cells [.lit (.int .i64 z.id), .lit (.int .i64 k)] 56) := hh9 ▸ at_push_n _ _
              rw [← hh9]
              clear hh9
              have q1 := he'.1
              have q2 := e9.1
              have htl : ((fs.take i).flatMap pgsOf ++ (pgsOf z).take k).length ≤ 200 := by rw [List.length_append, List.length_take]; omega
              refine WOp_app ((ho'.ext e9 (Nat.le_refl _)).snoc (by kernel_rfl) (by kernel_rfl) (by kernel_rfl) (zv := .agg [.lit (.int .i64 0), .lit (.int .i64 0)]) (by kernel_rfl) (by' := 16) (by kernel_rfl) rfl (by decide) (by decide) A9 (y := ⟨z.id, (k : Int)⟩) (RPg_is.2 ⟨rfl, hzi, (by show -9223372036854775808 ≤ (k : Int) ∧ (k : Int) < 9223372036854775808; omega)⟩) (by omega) (by omega) (by omega)) ?_
              rintro s10 h10 ⟨ho10, e10, k10⟩
              obtain ⟨k11, k12⟩ := k10 h7.n (by omega) hap
              obtain ⟨hd10, hdis10⟩ := (hd'.ext e9 (Nat.le_refl _)).keep hdis' k10
              have t9 := ho10.one
              simp only [core, Nat.reduceAdd, Nat.reduceSub, Nat.reduceMul, Nat.reduceLT, Nat.reduceEqDiff, reduceCtorEq, Nat.reduceLeDiff, Int.reduceLE, Int.reduceLT, Int.reduceToNat, hn, g1, g3, g4, g5, g9, g11, g15, g16, t9, hwk]
              refine ih3 (k + 1) _ _ ⟨s10, ?_, hd10, hdis10, (he'.step e9).trans e10, k12, k11.trans ((e9.2 _ lB').trans B'), by omega, ?_⟩ (by omega)
              · rw [List.take_add_one, hpg, ← List.append_assoc]
                exact ho10
              · simp only [core, Nat.reduceAdd, Nat.reduceSub, Nat.reduceMul, Nat.reduceLT, Nat.reduceEqDiff, reduceCtorEq, Nat.reduceLeDiff, Int.reduceLE, Int.reduceLT, Int.reduceToNat, hn, g1, g3, g4, g5, g9, g11, g15, g16]
            · simp only [core, Nat.reduceAdd, Nat.reduceSub, Nat.reduceMul, Nat.reduceLT, Nat.reduceEqDiff, reduceCtorEq, Nat.reduceLeDiff, Int.reduceLE, Int.reduceLT, Int.reduceToNat, hn, g1, g3, g4, g5, g9, g11, g15, g16, hk1, hk2, LB', lB', hws]
              refine ih _ _ ⟨o', d6, hend (by split <;> omega), ?_, hdis', he', ?_⟩
              · rw [hD]; exact .inl hd'
              · simp only [core, Nat.reduceAdd, Nat.reduceSub, Nat.reduceMul, Nat.reduceLT, Nat.reduceEqDiff, reduceCtorEq, Nat.reduceLeDiff, Int.reduceLE, Int.reduceLT, Int.reduceToNat, hn, g1, g3, g4, g5, g9, g11, g15, g16]
          · simp only [core, Nat.reduceAdd, Nat.reduceSub, Nat.reduceMul, Nat.reduceLT, Nat.reduceEqDiff, reduceCtorEq, Nat.reduceLeDiff, Int.reduceLE, Int.reduceLT, Int.reduceToNat, hn, g1, g3, g4, g5, g9, g11, g15, g16, hk1, LB', lB', hws]
            refine ih _ _ ⟨o', d6, hend (by split <;> omega), ?_, hdis', he', ?_⟩
            · rw [hD]; exact .inl hd'
            · simp only [core, Nat.reduceAdd, Nat.reduceSub, Nat.reduceMul, Nat.reduceLT, Nat.reduceEqDiff, reduceCtorEq, Nat.reduceLeDiff, Int.reduceLE, Int.reduceLT, Int.reduceToNat, hn, g1, g3, g4, g5, g9, g11, g15, g16]
        · refine ⟨o, ?_, hd8, hdis6.symm, E8, ho7.apart (Nat.le_refl _), P8, by omega, ?_⟩
          · rw [List.take_zero, List.append_nil]; exact ho8
          · simp only [core, Nat.reduceAdd, Nat.reduceSub, Nat.reduceMul, Nat.reduceLT, Nat.reduceEqDiff, reduceCtorEq, Nat.reduceLeDiff, Int.reduceLE, Int.reduceLT, Int.reduceToNat, hn, g1, g3, g4, g5, g6, g15, g16, g19, g20, g21]
            rfl
    · refine ⟨none, Ext.refl _ _, by rw [List.drop_zero], ?_⟩
      simp only [core, Nat.reduceAdd, Nat.reduceSub, Nat.reduceMul, Nat.reduceLT, Nat.reduceEqDiff, reduceCtorEq, Nat.reduceLeDiff, Int.reduceLE, Int.reduceLT, Int.reduceToNat, hn, g1, g3, g4, g15, g16]
      simp
  · rintro t h hc ⟨o, d, ho, hd, hdis, he, hn, g1, g3, g4, g15, g16⟩
    have t1 := ho.one
    simp only [core, Nat.reduceAdd, Nat.reduceSub, Nat.reduceMul, Nat.reduceLT, Nat.reduceEqDiff, reduceCtorEq, Nat.reduceLeDiff, Int.reduceLE, Int.reduceLT, Int.reduceToNat, hn, g1, g3, g4, g15, g16, hc, t1]
    exact ⟨E1.step he, hres _ _ o (.inl rfl) ho⟩
  · simp only [core, Nat.reduceAdd, Nat.reduceSub, Nat.reduceMul, Nat.reduceLT, Nat.reduceEqDiff, reduceCtorEq, Nat.reduceLeDiff, Int.reduceLE, Int.reduceLT, Int.reduceToNat]
    exact ⟨_, _, OwnL.nil, .inr ⟨rfl, rfl, B1⟩, Dis.nil.symm, Ext.refl _ _, by simp⟩
end Go.Proofs.Ytkgbeihcepociaa.Ex
end

section

set_option linter.unusedSimpArgs false
set_option linter.unusedVariables false
set_option maxRecDepth 10000
set_option maxHeartbeats 4000000
namespace Go.Proofs.Ytkgbeihcepociaa.Ex
open Go
theorem ofR_x {F : Nat → Prop} {H : AH} {m : MapD} {vo vp vb : AV} (osd : Int) (hm : MpAt F H m vo vp vb) (hok : OkM m) (hlo : Sm 40 m.osds) (hpo : Sm 32 m.pools) (hpl : m.pools.length < 20) :
    WC Try.prog (tabOf Try.prog NT0) S0 55 [mpV m vo vp vb, .lit (.int .i64 osd)] H fun v h' => Ext H.n H h' ∧ IsSl RPg (fun b => H.n ≤ b) h' v (ofC m (allC m) osd) := by
  refine WC_fn Try.func55 rfl rfl ?_
  have o1 := hm.o.one
  have o2 := hm.p.one
  have o3 := hm.b.one
  have i1 := hm.o.isSl
  have i2 := hm.p.isSl
  have i3 := hm.b.isSl
  simp only [core, Nat.reduceAdd, Nat.reduceSub, Nat.reduceMul, Nat.reduceLT, Nat.reduceEqDiff, reduceCtorEq, Nat.reduceLeDiff, Int.reduceLE, Int.reduceLT, Int.reduceToNat, Try.ntmps55, mpV, o1, o2, o3]
  obtain ⟨h1, hh1⟩ : ∃ h1, h1 = H.push (.cells [.lit (.int .i64 m.epoch), vo, vp, vb, .lit (.int .i64 m.leaf)] 31) := ⟨_, rfl⟩
  have E1 : Ext H.n H h1 := hh1 ▸ (Ext.refl _ _).push _ (Nat.le_refl _)
  have A1 : h1.at H.n = some (.cells [.lit (.int .i64 m.epoch), vo, vp, vb, .lit (.int .i64 m.leaf)] 31) := hh1 ▸ at_push_n _ _
  have la1 := at_lt A1
  rw [← hh1]
  clear hh1
  refine (allR_x (hm.ext E1 (Nat.le_refl _)) hpl hpo).mono ?_
  rintro v h2 ⟨e2, hv⟩
  have E2 := E1.step e2
  have A2 := (e2.2 _ la1).trans A1
  have la2 := at_lt A2
  have v1 := hv.isSl
  have v2 := hv.lenD
  have hlen := allC_len m
  simp only [core, Nat.reduceAdd, Nat.reduceSub, Nat.reduceMul, Nat.reduceLT, Nat.reduceEqDiff, reduceCtorEq, Nat.reduceLeDiff, Int.reduceLE, Int.reduceLT, Int.reduceToNat, v1, v2]
  refine WB_for (allC m).length (fun i t h => ∃ o, OwnL RPg (fun _ => False) h2.n h o 56 (ofC m ((allC m).take i) osd) ∧ Ext h2.n h2 h ∧ t.n = 26 ∧ t.get 1 = .lit (.int .i64 osd) ∧ t.get 2 = .ptr H.n 0 ∧ t.get 5 = o ∧ t.get 9 = v ∧ t.get 10 = .lit (.int .i64 (allC m).length) ∧ t.get 11 = .lit (.int .i64 i)) ?_ ?_ _ _ ?_
  · rintro i t h hlt hc ⟨o, ho, he, hn, g1, g2, g5, g9, g10, g11⟩ ih
    have E3 := E2.step he
    have A3 := (he.2 _ la2).trans A2
    have la3 := at_lt A3
    have LA3 := ld_at (T := tabOf Try.prog NT0) A3
    have hws := wrap_succ hlt (by omega)
    obtain ⟨g, hg⟩ : ∃ g, (allC m)[i]? = some g := ⟨_, List.getElem?_eq_getElem hlt⟩
    obtain ⟨c, hc1, hld, hld0⟩ := hv.atE (T := tabOf Try.prog NT0) he (show RPg.z = 2 from rfl) hg
    obtain ⟨rfl, I1, I2⟩ := RPg_is.1 hc1
    obtain ⟨hA, hhA⟩ : ∃ hA, hA = h.push (.cells [.lit (.int .i64 g.pool), .lit (.int .i64 g.seed)] 56) := ⟨_, rfl⟩
    have eA : Ext h.n h hA := hhA ▸ (Ext.refl _ _).push _ (Nat.le_refl _)
    have BA : hA.at h.n = some (.cells [.lit (.int .i64 g.pool), .lit (.int .i64 g.seed)] 56) := hhA ▸ at_push_n _ _
    have lB := at_lt BA
    have LB := ld_at (T := tabOf Try.prog NT0) BA
    have AA := (eA.2 _ la3).trans A3
    have lA := at_lt AA
    have LA := ld_at (T := tabOf Try.prog NT0) AA
    have EA := E3.step eA
    simp only [core, Nat.reduceAdd, Nat.reduceSub, Nat.reduceMul, Nat.reduceLT, Nat.reduceEqDiff, reduceCtorEq, Nat.reduceLeDiff, Int.reduceLE, Int.reduceLT, Int.reduceToNat, hn, g1, g2, g5, g9, g10, g11, hc, hlt, hld, hld0, v1, v2]
    rw [← hhA]
    clear hhA
    simp only [core, Nat.reduceAdd, Nat.reduceSub, Nat.reduceMul, Nat.reduceLT, Nat.reduceEqDiff, reduceCtorEq, Nat.reduceLeDiff, Int.reduceLE, Int.reduceLT, Int.reduceToNat, hn, g1, g2, g5, g9, g10, g11, LA, lA, LB, lB]
    refine (actR_x g.pool g.seed (hm.ext EA (Nat.le_refl _)) hok hlo hpo).mono ?_
    rintro w h3 ⟨e3, hw⟩
    have B3 := (e3.2 _ lB).trans BA
    have lB3 := at_lt B3
    have LB3 := ld_at (T := tabOf Try.prog NT0) B3
    have hal := actF_len (m := m) (pool := g.pool) (seed := g.seed)
    have ho3 := (ho.ext eA (Nat.le_refl _)).ext e3 (Nat.le_refl _)
    have he3 := (he.step eA).step e3
    have q0 := he3.1
    have hF : ofC m ((allC m).take (i + 1)) osd = if (actF m g.pool g.seed).contains osd then ofC m ((allC m).take i) osd ++ [g] else ofC m ((allC m).take i) osd := by
      rw [List.take_add_one, hg]
      unfold ofC
      rw [List.filter_append, Option.toList_some, List.filter_cons, List.filter_nil]
      split
      · rfl
      · rw [List.append_nil]
    simp only [core, Nat.reduceAdd, Nat.reduceSub, Nat.reduceMul, Nat.reduceLT, Nat.reduceEqDiff, reduceCtorEq, Nat.reduceLeDiff, Int.reduceLE, Int.reduceLT, Int.reduceToNat, hn, g1, g2, g5, g9, g10, g11]
    refine (among9_x osd hw (by omega)).mono ?_
    rintro _ h4 ⟨rfl, rfl⟩
    by_cases hco : (actF m g.pool g.seed).contains osd = true
    · rw [if_pos hco] at hF
      simp only [core, Nat.reduceAdd, Nat.reduceSub, Nat.reduceMul, Nat.reduceLT, Nat.reduceEqDiff, reduceCtorEq, Nat.reduceLeDiff, Int.reduceLE, Int.reduceLT, Int.reduceToNat, hn, g1, g2, g5, g9, g10, g11, hco, LB3, lB3]
      obtain ⟨h5, hh5⟩ : ∃ h5, h5 = h4.push (.cells [.lit (.int .i64 g.pool), .lit (.int .i64 g.seed)] 56) := ⟨_, rfl⟩
      have e5 : Ext h4.n h4 h5 := hh5 ▸ (Ext.refl _ _).push _ (Nat.le_refl _)
      have A5 : h5.at h4.n = some (.cells [.lit (.int .i64 g.pool), .lit (.int .i64 g.seed)] 56) := hh5 ▸ at_push_n _ _
      rw [← hh5]
      have q2 := e5.1
      have htl : (ofC m ((allC m).take i) osd).length ≤ i := by
        have := List.length_filter_le (fun g => (actF m g.pool g.seed).contains osd) ((allC m).take i)
        rw [List.length_take] at this
        unfold ofC
        omega
      refine WOp_app ((ho3.ext e5 (Nat.le_refl _)).snoc (by kernel_rfl) (by kernel_rfl) (by kernel_rfl) (zv := .agg [.lit (.int .i64 0), .lit (.int .i64 0)]) (by kernel_rfl) (by' := 16) (by kernel_rfl) rfl (by decide) (by decide) A5 (y := g) (RPg_is.2 ⟨rfl, I1, I2⟩) (by omega) (by omega) (by omega)) ?_
      rintro s9 h9 ⟨ho9, e9, k9⟩
      have t9 := ho9.one
      simp only [core, Nat.reduceAdd, Nat.reduceSub, Nat.reduceMul, Nat.reduceLT, Nat.reduceEqDiff, reduceCtorEq, Nat.reduceLeDiff, Int.reduceLE, Int.reduceLT, Int.reduceToNat, hn, g1, g2, g5, g9, g10, g11, t9, hws]
      refine ih _ _ ⟨s9, by rw [hF]; exact ho9, (he3.step e5).trans e9, ?_⟩
      simp only [core, Nat.reduceAdd, Nat.reduceSub, Nat.reduceMul, Nat.reduceLT, Nat.reduceEqDiff, reduceCtorEq, Nat.reduceLeDiff, Int.reduceLE, Int.reduceLT, Int.reduceToNat, hn, g1, g2, g5, g9, g10, g11]
    · rw [if_neg hco] at hF
      have hco : (actF m g.pool g.seed).contains osd = false := by simpa using hco
      simp only [core, Nat.reduceAdd, Nat.reduceSub, Nat.reduceMul, Nat.reduceLT, Nat.reduceEqDiff, reduceCtorEq, Nat.reduceLeDiff, Int.reduceLE, Int.reduceLT, Int.reduceToNat, hn, g1, g2, g5, g9, g10, g11, hco, hws]
      refine ih _ _ ⟨o, by rw [hF]; exact ho3, he3, ?_⟩
      simp only [core, Nat.reduceAdd, Nat.reduceSub, Nat.reduceMul, Nat.reduceLT, Nat.reduceEqDiff, reduceCtorEq, Nat.reduceLeDiff, Int.reduceLE, Int.reduceLT, Int.reduceToNat, hn, g1, g2, g5, g9, g10, g11]
  · rintro t h hc ⟨o, ho, he, hn, g1, g2, g5, g9, g10, g11⟩
    have t9 := ho.one
    rw [List.take_length] at ho
    simp only [core, Nat.reduceAdd, Nat.reduceSub, Nat.reduceMul, Nat.reduceLT, Nat.reduceEqDiff, reduceCtorEq, Nat.reduceLeDiff, Int.reduceLE, Int.reduceLT, Int.reduceToNat, hn, g1, g2, g5, g9, g10, g11, hc, t9]
    refine ⟨E2.step he, ?_⟩
    exact ho.toSl (fun _ hf => hf.elim) (fun b hb => by have := E2.1; omega)
  · simp only [core, Nat.reduceAdd, Nat.reduceSub, Nat.reduceMul, Nat.reduceLT, Nat.reduceEqDiff, reduceCtorEq, Nat.reduceLeDiff, Int.reduceLE, Int.reduceLT, Int.reduceToNat]
    exact ⟨_, OwnL.nil, Ext.refl _ _, rfl, rfl⟩
end Go.Proofs.Ytkgbeihcepociaa.Ex
end

section

set_option linter.unusedSimpArgs false
set_option linter.unusedVariables false
set_option maxRecDepth 10000
set_option maxHeartbeats 4000000
namespace Go.Proofs.Ytkgbeihcepociaa.Ex
open Go
theorem able_out {m : MapD} {o : Int} (h : ableF m o = true) : ∃ (k : Nat) (y : OsdD), o = (k : Int) ∧ m.osds[k]? = some y ∧ y.ex = true ∧ y.up = true ∧ 0 < y.weight := by
  unfold ableF at h
  by_cases h0 : 0 ≤ o
  · rw [if_pos h0] at h
    cases hy : m.osds[o.toNat]? with
    | none => rw [hy] at h; cases h
    | some y =>
      rw [hy] at h
      have h : ableO y = true := h
      unfold ableO at h
      simp only [Bool.and_eq_true, decide_eq_true_eq] at h
      exact ⟨o.toNat, y, by omega, hy, h.1.1, h.1.2, h.2⟩
  · rw [if_neg h0] at h; cases h
theorem placeActing_m {F : Nat → Prop} {H : AH} {m : MapD} {vo vp vb : AV} (pool seed : Int) (osd : Int) (hm : MpAt F H m vo vp vb) (hF : ∀ b, F b → b < H.n) (hok : OkMp m) :
    WC Try.prog (tabOf Try.prog NT0) S0 13 [mpV m vo vp vb, pgV pool seed, .lit (.int .i64 osd)] H fun v h' => v = .lit (.bool true) := by
  refine WC_fn Try.func13 rfl rfl ?_
  have o1 := hm.o.one
  have o2 := hm.p.one
  have o3 := hm.b.one
  have i1 := hm.o.isSl
  have i2 := hm.p.isSl
  have i3 := hm.b.isSl
  have w2 := hm.o.lenD
  have hlo : m.osds.length * 40 ≤ 140737488351232 := hok.1.1
  simp only [core, Nat.reduceAdd, Nat.reduceSub, Nat.reduceMul, Nat.reduceLT, Nat.reduceEqDiff, reduceCtorEq, Nat.reduceLeDiff, Int.reduceLE, Int.reduceLT, Int.reduceToNat, Try.ntmps13, mpV, pgV, o1, o2, o3]
  obtain ⟨h1, hh1⟩ : ∃ h1, h1 = (H.push (.cells [.lit (.int .i64 m.epoch), vo, vp, vb, .lit (.int .i64 m.leaf)] 31)).push (.cells [.lit (.int .i64 pool), .lit (.int .i64 seed)] 56) := ⟨_, rfl⟩
  have E1 : Ext H.n H h1 := hh1 ▸ ((Ext.refl _ _).push _ (Nat.le_refl _)).push _ (by rw [n_push]; omega)
  have A1 : h1.at H.n = some (.cells [.lit (.int .i64 m.epoch), vo, vp, vb, .lit (.int .i64 m.leaf)] 31) := hh1 ▸ (at_push_lt _ (by rw [n_push]; omega)).trans (at_push_n _ _)
  have B1 : h1.at (H.n + 1) = some (.cells [.lit (.int .i64 pool), .lit (.int .i64 seed)] 56) := hh1 ▸ at_push_n _ _
  have la1 := at_lt A1
  have lb1 := at_lt B1
  rw [← hh1]
  clear hh1
  refine (tame_x (hm.ext E1 (Nat.le_refl _))).mono ?_
  rintro _ h2 ⟨e2, rfl⟩
  have E2 := E1.step e2
  have A2 := (e2.2 _ la1).trans A1
  have B2 := (e2.2 _ lb1).trans B1
  have la2 := at_lt A2
  have lb2 := at_lt B2
  have LA2 := ld_at (T := tabOf Try.prog NT0) A2
  have LB2 := ld_at (T := tabOf Try.prog NT0) B2
  obtain ⟨ta, hta⟩ : ∃ ta, ta = (decide (m.pools.length < 20) && decide (m.buckets.length < 40)) := ⟨_, rfl⟩
  rw [← hta]
  by_cases ht : ta = false
  · simp only [core, Nat.reduceAdd, Nat.reduceSub, Nat.reduceMul, Nat.reduceLT, Nat.reduceEqDiff, reduceCtorEq, Nat.reduceLeDiff, Int.reduceLE, Int.reduceLT, Int.reduceToNat, ht]
    refine lives09_c ?_
    simp only [core, Nat.reduceAdd, Nat.reduceSub, Nat.reduceMul, Nat.reduceLT, Nat.reduceEqDiff, reduceCtorEq, Nat.reduceLeDiff, Int.reduceLE, Int.reduceLT, Int.reduceToNat]
  have ht : ta = true := by simpa using ht
  have hpl : m.pools.length < 20 := by
    rw [ht] at hta
    have := (Bool.and_eq_true_iff.1 hta.symm).1
    exact of_decide_eq_true this
  simp only [core, Nat.reduceAdd, Nat.reduceSub, Nat.reduceMul, Nat.reduceLT, Nat.reduceEqDiff, reduceCtorEq, Nat.reduceLeDiff, Int.reduceLE, Int.reduceLT, Int.reduceToNat, ht, LA2, la2, LB2, lb2]
  refine (act_x pool seed (hm.ext E2 (Nat.le_refl _)) hok.okM hok.1.1 hok.2.1.1).mono ?_
  rintro va h3 ⟨e3, hva⟩
  have E3 := E2.step e3
  have A3 := (e3.2 _ la2).trans A2
  have B3 := (e3.2 _ lb2).trans B2
  have la3 := at_lt A3
  have lb3 := at_lt B3
  have LA3 := ld_at (T := tabOf Try.prog NT0) A3
  have LB3 := ld_at (T := tabOf Try.prog NT0) B3
  have v1 := hva.isSl
  have v2 := hva.lenD
  have hal := actF_len (m := m) (pool := pool) (seed := seed)
  simp only [core, Nat.reduceAdd, Nat.reduceSub, Nat.reduceMul, Nat.reduceLT, Nat.reduceEqDiff, reduceCtorEq, Nat.reduceLeDiff, Int.reduceLE, Int.reduceLT, Int.reduceToNat, LA3, la3, LB3, lb3]
  refine (primary_x pool seed (hm.ext E3 (Nat.le_refl _)) hok.okM hok.1.1 hok.2.1.1).mono ?_
  rintro _ h4 ⟨e4, rfl⟩
  have E4 := E3.step e4
  have A4 := (e4.2 _ la3).trans A3
  have B4 := (e4.2 _ lb3).trans B3
  have la4 := at_lt A4
  have lb4 := at_lt B4
  have LA4 := ld_at (T := tabOf Try.prog NT0) A4
  have LB4 := ld_at (T := tabOf Try.prog NT0) B4
  simp only [core, Nat.reduceAdd, Nat.reduceSub, Nat.reduceMul, Nat.reduceLT, Nat.reduceEqDiff, reduceCtorEq, Nat.reduceLeDiff, Int.reduceLE, Int.reduceLT, Int.reduceToNat, LA4, la4, LB4, lb4]
  refine (primaryR_x pool seed (hm.ext E4 (Nat.le_refl _)) hok.okM hok.1.1 hok.2.1.1).mono ?_
  rintro _ h5 ⟨e5, rfl⟩
  have E5 := E4.step e5
  have A5 := (e5.2 _ la4).trans A4
  have B5 := (e5.2 _ lb4).trans B4
  have la5 := at_lt A5
  have lb5 := at_lt B5
  have LA5 := ld_at (T := tabOf Try.prog NT0) A5
  have LB5 := ld_at (T := tabOf Try.prog NT0) B5
  simp only [core, Nat.reduceAdd, Nat.reduceSub, Nat.reduceMul, Nat.reduceLT, Nat.reduceEqDiff, reduceCtorEq, Nat.reduceLeDiff, Int.reduceLE, Int.reduceLT, Int.reduceToNat]
  rw [WB_regionD [0, 1, 2, 3, 4, 5, 6, 7, 8, 9, 10, 11, 12, 13, 14, 15, 16, 17, 18, 20, 21, 19, 22, 23, 24, 25] 156764262437080502733330192216320775214048230131430529324764065235294691087057608841277094521903599501320199953872483770932673294727401976010152825760758699875769933865960575421745915787488279442489344000 (by kernel_rfl)]
  repeat ((with_reducible refine WDM_cons ?_; simp only [dw1]; try simp only [dw2, Nat.reduceAdd, Nat.reduceMul, Nat.reduceShiftRight, Nat.reduceMod, Nat.reduceEqDiff]); simp only [core, Nat.reduceAdd, Nat.reduceSub, Nat.reduceMul, Nat.reduceLT, Nat.reduceEqDiff, reduceCtorEq, Nat.reduceLeDiff, Int.reduceLE, Int.reduceLT, Int.reduceToNat, cored, LA5, la5, LB5, lb5, i1, i2, i3])
  refine (actR_x pool seed (hm.ext E5 (Nat.le_refl _)) hok.okM hok.1.1 hok.2.1.1).mono ?_
  rintro vr h6 ⟨e6, hvr⟩
  have E6 := E5.step e6
  have A6 := (e6.2 _ la5).trans A5
  have B6 := (e6.2 _ lb5).trans B5
  have la6 := at_lt A6
  have lb6 := at_lt B6
  have LA6 := ld_at (T := tabOf Try.prog NT0) A6
  have LB6 := ld_at (T := tabOf Try.prog NT0) B6
  have r1 := hvr.isSl
  have hva5 := ((hva.ext e4 (Nat.le_refl _)).ext e5 (Nat.le_refl _)).ext e6 (Nat.le_refl _)
  repeat ((with_reducible refine WDM_cons ?_; simp only [dw1]; try simp only [dw2, Nat.reduceAdd, Nat.reduceMul, Nat.reduceShiftRight, Nat.reduceMod, Nat.reduceEqDiff]); simp only [core, Nat.reduceAdd, Nat.reduceSub, Nat.reduceMul, Nat.reduceLT, Nat.reduceEqDiff, reduceCtorEq, Nat.reduceLeDiff, Int.reduceLE, Int.reduceLT, Int.reduceToNat, cored, LA6, la6, LB6, lb6, i1, i2, i3, v1, r1])
  refine (ints_x hva5 hvr (by omega)).mono ?_
  rintro _ h7 ⟨rfl, rfl⟩
  have hb1 : (actF m pool seed == actF m pool seed) = true := beq_self_eq_true _
  have hb2 : ((actF m pool seed).getD 0 0 == (actF m pool seed).getD 0 0) = true := beq_self_eq_true _
  have hb3 : ((!(actF m pool seed).isEmpty) == (!(actF m pool seed).isEmpty)) = true := beq_self_eq_true _
  obtain ⟨pr, hpr⟩ : ∃ pr, pr = (actF m pool seed).getD 0 0 := ⟨_, rfl⟩
  obtain ⟨pi, hpi⟩ : ∃ pi, pi = (!(actF m pool seed).isEmpty) := ⟨_, rfl⟩
  have hb2 : (pr == pr) = true := beq_self_eq_true _
  have hb3 : (pi == pi) = true := beq_self_eq_true _
  have hb7 : (pr != pr) = false := bne_self_eq_false _
  repeat ((with_reducible refine WDM_cons ?_; simp only [dw1]; try simp only [dw2, Nat.reduceAdd, Nat.reduceMul, Nat.reduceShiftRight, Nat.reduceMod, Nat.reduceEqDiff]); simp only [core, Nat.reduceAdd, Nat.reduceSub, Nat.reduceMul, Nat.reduceLT, Nat.reduceEqDiff, reduceCtorEq, Nat.reduceLeDiff, Int.reduceLE, Int.reduceLT, Int.reduceToNat, cored, LA6, la6, LB6, lb6, i1, i2, i3, v1, r1, hb1, ← hpr, ← hpi, hb2, hb3, hb7])
  refine (boots_x pool seed (hm.ext E6 (Nat.le_refl _)) hok.okM hok.1.1 hok.2.1.1).mono ?_
  rintro vc h8 ⟨e8, hvc⟩
  have E8 := E6.step e8
  have A8 := (e8.2 _ la6).trans A6
  have B8 := (e8.2 _ lb6).trans B6
  have la8 := at_lt A8
  have lb8 := at_lt B8
  have LA8 := ld_at (T := tabOf Try.prog NT0) A8
  have LB8 := ld_at (T := tabOf Try.prog NT0) B8
  have c1 := hvc.isSl
  repeat ((with_reducible refine WDM_cons ?_; simp only [dw1]; try simp only [dw2, Nat.reduceAdd, Nat.reduceMul, Nat.reduceShiftRight, Nat.reduceMod, Nat.reduceEqDiff]); simp only [core, Nat.reduceAdd, Nat.reduceSub, Nat.reduceMul, Nat.reduceLT, Nat.reduceEqDiff, reduceCtorEq, Nat.reduceLeDiff, Int.reduceLE, Int.reduceLT, Int.reduceToNat, cored, LA8, la8, LB8, lb8, i1, i2, i3, v1, r1, c1, hb1, ← hpr, ← hpi, hb2, hb3, hb7])
  refine (bootsR_x pool seed (hm.ext E8 (Nat.le_refl _)) hok.okM hok.1.1 hok.2.1.1).mono ?_
  rintro vd h9 ⟨e9, hvd⟩
  have E9 := E8.step e9
  have A9 := (e9.2 _ la8).trans A8
  have B9 := (e9.2 _ lb8).trans B8
  have la9 := at_lt A9
  have lb9 := at_lt B9
  have LA9 := ld_at (T := tabOf Try.prog NT0) A9
  have LB9 := ld_at (T := tabOf Try.prog NT0) B9
  have d1 := hvd.isSl
  have hvc9 := hvc.ext e9 (Nat.le_refl _)
  have hva9 := (hva5.ext e8 (Nat.le_refl _)).ext e9 (Nat.le_refl _)
  have hbl : (bootF m (actF m pool seed)).length < 2 ^ 62 := by unfold bootF; rw [List.length_map]; omega
  repeat ((with_reducible refine WDM_cons ?_; simp only [dw1]; try simp only [dw2, Nat.reduceAdd, Nat.reduceMul, Nat.reduceShiftRight, Nat.reduceMod, Nat.reduceEqDiff]); simp only [core, Nat.reduceAdd, Nat.reduceSub, Nat.reduceMul, Nat.reduceLT, Nat.reduceEqDiff, reduceCtorEq, Nat.reduceLeDiff, Int.reduceLE, Int.reduceLT, Int.reduceToNat, cored, LA9, la9, LB9, lb9, i1, i2, i3, v1, r1, c1, d1, hb1, ← hpr, ← hpi, hb2, hb3, hb7])
  refine (ints_x hvc9 hvd hbl).mono ?_
  rintro _ h10 ⟨rfl, rfl⟩
  have hb4 : (bootF m (actF m pool seed) == bootF m (actF m pool seed)) = true := beq_self_eq_true _
  repeat ((with_reducible refine WDM_cons ?_; simp only [dw1]; try simp only [dw2, Nat.reduceAdd, Nat.reduceMul, Nat.reduceShiftRight, Nat.reduceMod, Nat.reduceEqDiff]); simp only [core, Nat.reduceAdd, Nat.reduceSub, Nat.reduceMul, Nat.reduceLT, Nat.reduceEqDiff, reduceCtorEq, Nat.reduceLeDiff, Int.reduceLE, Int.reduceLT, Int.reduceToNat, cored, LA9, la9, LB9, lb9, i1, i2, i3, v1, v2, r1, c1, d1, hb1, hb4, ← hpr, ← hpi, hb2, hb3, hb7])
  obtain ⟨acts, hacts⟩ : ∃ acts, acts = actF m pool seed := ⟨_, rfl⟩
  have hnd := actF_nodup (m := m) (pool := pool) (seed := seed)
  have hab := actF_able (m := m) (pool := pool) (seed := seed)
  rw [← hacts] at hva9 v2 hal hnd hab ⊢
  refine WB_for acts.length (fun i t h => h = h10 ∧ t.n = 132 ∧ t.get 2 = .lit (.int .i64 osd) ∧ t.get 3 = .ptr H.n 0 ∧ t.get 4 = .ptr (H.n + 1) 0 ∧ t.get 7 = va ∧ t.get 60 = va ∧ t.get 61 = .lit (.int .i64 acts.length) ∧ t.get 62 = .lit (.int .i64 i)) ?_ ?_ _ _ ?_
  · rintro i t hq hlt hc ⟨hh, hn, g2, g3, g4, g7, g60, g61, g62⟩ ih
    replace hh := hh.symm
    subst hh
    have hws := wrap_succ hlt (by omega)
    have hld := hva9.int (T := tabOf Try.prog NT0) (e := 3) (by kernel_rfl) (by kernel_rfl) hlt
    obtain ⟨kk, y, hk, hy, y1, y2, y3⟩ := able_out (hab (acts.getD i 0) (by rw [List.getD_eq_getElem?_getD, List.getElem?_eq_getElem hlt]; exact List.getElem_mem hlt))
    obtain ⟨c, hc1, hly, hly0⟩ := hm.o.atE (T := tabOf Try.prog NT0) E9 (show ROsd.z = 6 from rfl) hy
    obtain ⟨rfl, I1, I2, I3, I4⟩ := ROsd_is.1 hc1
    have hkl : kk < m.osds.length := (List.getElem?_eq_some_iff.1 hy).1
    rw [y1, y2] at hly hly0
    rw [hk] at hld
    have z1 : ((kk : Int) < 0) = False := by simp
    have z2 : ((m.osds.length : Int) ≤ (kk : Int)) = False := by simp only [eq_iff_iff, iff_false]; omega
    have z3 : (y.weight < 1) = False := by simp only [eq_iff_iff, iff_false]; omega
    simp only [core, Nat.reduceAdd, Nat.reduceSub, Nat.reduceMul, Nat.reduceLT, Nat.reduceEqDiff, reduceCtorEq, Nat.reduceLeDiff, Int.reduceLE, Int.reduceLT, Int.reduceToNat, hn, g2, g3, g4, g7, g60, g61, g62, hc, hlt, hld, v1, v2, LA9, la9, i1, w2, z1, z2, z3, hkl, hly, hly0]
    refine WB_for i (fun j t h' => h' = h10 ∧ t.n = 132 ∧ t.get 2 = .lit (.int .i64 osd) ∧ t.get 3 = .ptr H.n 0 ∧ t.get 4 = .ptr (H.n + 1) 0 ∧ t.get 7 = va ∧ t.get 12 = .lit (.int .i64 i) ∧ t.get 13 = .lit (.int .i64 kk) ∧ t.get 14 = .lit (.int .i64 j) ∧ t.get 60 = va ∧ t.get 61 = .lit (.int .i64 acts.length) ∧ t.get 62 = .lit (.int .i64 i)) ?_ ?_ _ _ ?_
    · rintro j t hq hj hcj ⟨hh, hn, g2, g3, g4, g7, g12, g13, g14, g60, g61, g62⟩ ih2
      replace hh := hh.symm
      subst hh
      have hjl : j < acts.length := by omega
      have hws2 := wrap_succ hj (by omega)
      have hldj := hva9.int (T := tabOf Try.prog NT0) (e := 3) (by kernel_rfl) (by kernel_rfl) hjl
      have hne : (acts.getD j 0 == (kk : Int)) = false := by
        rw [← hk, beq_eq_false_iff_ne, List.getD_eq_getElem?_getD, List.getD_eq_getElem?_getD, List.getElem?_eq_getElem hjl, List.getElem?_eq_getElem hlt]
        exact List.pairwise_iff_getElem.1 hnd j i hjl hlt hj
      simp only [core, Nat.reduceAdd, Nat.reduceSub, Nat.reduceMul, Nat.reduceLT, Nat.reduceEqDiff, reduceCtorEq, Nat.reduceLeDiff, Int.reduceLE, Int.reduceLT, Int.reduceToNat, hn, g2, g3, g4, g7, g12, g13, g14, g60, g61, g62, hcj, hjl, hldj, v1, v2, hne, hws2]
      refine ih2 _ _ ⟨rfl, ?_⟩
      simp only [core, Nat.reduceAdd, Nat.reduceSub, Nat.reduceMul, Nat.reduceLT, Nat.reduceEqDiff, reduceCtorEq, Nat.reduceLeDiff, Int.reduceLE, Int.reduceLT, Int.reduceToNat, hn, g2, g3, g4, g7, g12, g13, g14, g60, g61, g62]
    · rintro t hq hcj ⟨hh, hn, g2, g3, g4, g7, g12, g13, g14, g60, g61, g62⟩
      replace hh := hh.symm
      subst hh
      simp only [core, Nat.reduceAdd, Nat.reduceSub, Nat.reduceMul, Nat.reduceLT, Nat.reduceEqDiff, reduceCtorEq, Nat.reduceLeDiff, Int.reduceLE, Int.reduceLT, Int.reduceToNat, hn, g2, g3, g4, g7, g12, g13, g14, g60, g61, g62, hcj, hws]
      refine ih _ _ ⟨rfl, ?_⟩
      simp only [core, Nat.reduceAdd, Nat.reduceSub, Nat.reduceMul, Nat.reduceLT, Nat.reduceEqDiff, reduceCtorEq, Nat.reduceLeDiff, Int.reduceLE, Int.reduceLT, Int.reduceToNat, hn, g2, g3, g4, g7, g12, g13, g14, g60, g61, g62]
    · simp only [core, Nat.reduceAdd, Nat.reduceSub, Nat.reduceMul, Nat.reduceLT, Nat.reduceEqDiff, reduceCtorEq, Nat.reduceLeDiff, Int.reduceLE, Int.reduceLT, Int.reduceToNat, hn, g2, g3, g4, g7, g60, g61, g62]
      simp
  · rintro t hq hc ⟨hh, hn, g2, g3, g4, g7, g60, g61, g62⟩
    replace hh := hh.symm
    subst hh
    simp only [core, Nat.reduceAdd, Nat.reduceSub, Nat.reduceMul, Nat.reduceLT, Nat.reduceEqDiff, reduceCtorEq, Nat.reduceLeDiff, Int.reduceLE, Int.reduceLT, Int.reduceToNat, hn, g2, g3, g4, g7, g60, g61, g62, hc]
    rw [WB_regionD [0, 2, 1, 3, 4, 5, 6, 7, 9, 10, 8, 11, 12, 13, 14, 15, 16, 17] 17087798509205256993395967890571880734042448442267817568947333725147970258211704997852385183531008 (by kernel_rfl)]
    repeat ((with_reducible refine WDM_cons ?_; simp only [dw1]; try simp only [dw2, Nat.reduceAdd, Nat.reduceMul, Nat.reduceShiftRight, Nat.reduceMod, Nat.reduceEqDiff]); simp only [core, Nat.reduceAdd, Nat.reduceSub, Nat.reduceMul, Nat.reduceLT, Nat.reduceEqDiff, reduceCtorEq, Nat.reduceLeDiff, Int.reduceLE, Int.reduceLT, Int.reduceToNat, cored, hn, g2, g3, g4, g7, g60, g61, g62, LA9, la9, i1, i2, i3])
    refine (all_x (hm.ext E9 (Nat.le_refl _)) hpl).mono ?_
    rintro vf h11 ⟨e11, hvf⟩
    have E11 := E9.step e11
    have A11 := (e11.2 _ la9).trans A9
    have la11 := at_lt A11
    have LA11 := ld_at (T := tabOf Try.prog NT0) A11
    have f1 := hvf.isSl
    repeat ((with_reducible refine WDM_cons ?_; simp only [dw1]; try simp only [dw2, Nat.reduceAdd, Nat.reduceMul, Nat.reduceShiftRight, Nat.reduceMod, Nat.reduceEqDiff]); simp only [core, Nat.reduceAdd, Nat.reduceSub, Nat.reduceMul, Nat.reduceLT, Nat.reduceEqDiff, reduceCtorEq, Nat.reduceLeDiff, Int.reduceLE, Int.reduceLT, Int.reduceToNat, cored, hn, g2, g3, g4, g7, g60, g61, g62, LA11, la11, i1, i2, i3, f1])
    refine (allR_x (hm.ext E11 (Nat.le_refl _)) hpl hok.2.1.1).mono ?_
    rintro vg h12 ⟨e12, hvg⟩
    have E12 := E11.step e12
    have A12 := (e12.2 _ la11).trans A11
    have la12 := at_lt A12
    have LA12 := ld_at (T := tabOf Try.prog NT0) A12
    have f2 := hvg.isSl
    have hall := allC_len m
    repeat ((with_reducible refine WDM_cons ?_; simp only [dw1]; try simp only [dw2, Nat.reduceAdd, Nat.reduceMul, Nat.reduceShiftRight, Nat.reduceMod, Nat.reduceEqDiff]); simp only [core, Nat.reduceAdd, Nat.reduceSub, Nat.reduceMul, Nat.reduceLT, Nat.reduceEqDiff, reduceCtorEq, Nat.reduceLeDiff, Int.reduceLE, Int.reduceLT, Int.reduceToNat, cored, hn, g2, g3, g4, g7, g60, g61, g62, LA12, la12, i1, i2, i3, f1, f2])
    refine (pgs_x (hvf.ext e12 (Nat.le_refl _)) hvg (by omega)).mono ?_
    rintro _ h13 ⟨rfl, rfl⟩
    have hb5 : decide (allC m = allC m) = true := decide_eq_true rfl
    repeat ((with_reducible refine WDM_cons ?_; simp only [dw1]; try simp only [dw2, Nat.reduceAdd, Nat.reduceMul, Nat.reduceShiftRight, Nat.reduceMod, Nat.reduceEqDiff]); simp only [core, Nat.reduceAdd, Nat.reduceSub, Nat.reduceMul, Nat.reduceLT, Nat.reduceEqDiff, reduceCtorEq, Nat.reduceLeDiff, Int.reduceLE, Int.reduceLT, Int.reduceToNat, cored, hn, g2, g3, g4, g7, g60, g61, g62, LA12, la12, i1, i2, i3, f1, f2, hb5])
    refine (of_x osd (hm.ext E12 (Nat.le_refl _)) hok.okM hok.1.1 hok.2.1.1 hpl).mono ?_
    rintro vh h14 ⟨e14, hvh⟩
    have E14 := E12.step e14
    have A14 := (e14.2 _ la12).trans A12
    have la14 := at_lt A14
    have LA14 := ld_at (T := tabOf Try.prog NT0) A14
    have f3 := hvh.isSl
    repeat ((with_reducible refine WDM_cons ?_; simp only [dw1]; try simp only [dw2, Nat.reduceAdd, Nat.reduceMul, Nat.reduceShiftRight, Nat.reduceMod, Nat.reduceEqDiff]); simp only [core, Nat.reduceAdd, Nat.reduceSub, Nat.reduceMul, Nat.reduceLT, Nat.reduceEqDiff, reduceCtorEq, Nat.reduceLeDiff, Int.reduceLE, Int.reduceLT, Int.reduceToNat, cored, hn, g2, g3, g4, g7, g60, g61, g62, LA14, la14, i1, i2, i3, f1, f2, f3, hb5])
    refine (ofR_x osd (hm.ext E14 (Nat.le_refl _)) hok.okM hok.1.1 hok.2.1.1 hpl).mono ?_
    rintro vi h15 ⟨e15, hvi⟩
    have f4 := hvi.isSl
    have hofn : (ofC m (allC m) osd).length < 2 ^ 62 := by
      have := List.length_filter_le (fun g => (actF m g.pool g.seed).contains osd) (allC m)
      unfold ofC
      omega
    repeat ((with_reducible refine WDM_cons ?_; simp only [dw1]; try simp only [dw2, Nat.reduceAdd, Nat.reduceMul, Nat.reduceShiftRight, Nat.reduceMod, Nat.reduceEqDiff]); simp only [core, Nat.reduceAdd, Nat.reduceSub, Nat.reduceMul, Nat.reduceLT, Nat.reduceEqDiff, reduceCtorEq, Nat.reduceLeDiff, Int.reduceLE, Int.reduceLT, Int.reduceToNat, cored, hn, g2, g3, g4, g7, g60, g61, g62, i1, i2, i3, f1, f2, f3, f4, hb5])
    refine (pgs_x (hvh.ext e15 (Nat.le_refl _)) hvi hofn).mono ?_
    rintro _ h16 ⟨rfl, rfl⟩
    have hb6 : decide (ofC m (allC m) osd = ofC m (allC m) osd) = true := decide_eq_true rfl
    repeat ((with_reducible refine WDM_cons ?_; simp only [dw1]; try simp only [dw2, Nat.reduceAdd, Nat.reduceMul, Nat.reduceShiftRight, Nat.reduceMod, Nat.reduceEqDiff]); simp only [core, Nat.reduceAdd, Nat.reduceSub, Nat.reduceMul, Nat.reduceLT, Nat.reduceEqDiff, reduceCtorEq, Nat.reduceLeDiff, Int.reduceLE, Int.reduceLT, Int.reduceToNat, cored, hn, g2, g3, g4, g7, g60, g61, g62, i1, i2, i3, f1, f2, f3, f4, hb5, hb6])
    refine lives09_c ?_
    repeat ((with_reducible refine WDM_cons ?_; simp only [dw1]; try simp only [dw2, Nat.reduceAdd, Nat.reduceMul, Nat.reduceShiftRight, Nat.reduceMod, Nat.reduceEqDiff]); simp only [core, Nat.reduceAdd, Nat.reduceSub, Nat.reduceMul, Nat.reduceLT, Nat.reduceEqDiff, reduceCtorEq, Nat.reduceLeDiff, Int.reduceLE, Int.reduceLT, Int.reduceToNat, cored, hn, g2, g3, g4, g7, g60, g61, g62, hb5, hb6])
  · refine ⟨rfl, ?_⟩
    simp only [core, Nat.reduceAdd, Nat.reduceSub, Nat.reduceMul, Nat.reduceLT, Nat.reduceEqDiff, reduceCtorEq, Nat.reduceLeDiff, Int.reduceLE, Int.reduceLT, Int.reduceToNat]
    simp
end Go.Proofs.Ytkgbeihcepociaa.Ex
namespace Go.Proofs.Ytkgbeihcepociaa
open Go.RowKit Go.ChangeShapes Go.WideShapes Go.ChangeAt
set_option maxRecDepth 100000 in
theorem placeActing_walk {H : Type} {enc : TypeId × Value → H} {W : World} {base : Nat} {v0 v1 v2 : Value} {d0 d1 d2 : DataW H} {p0 p1 p2 : List MemPlace}
    (k0 : Value.okWide Try.prog W .any base 31 v0) (h0 : DataW.Trod enc Try.prog W 0 (fun _ => true) true 31 v0 d0 p0)
    (k1 : Value.okWide Try.prog W .any base 56 v1) (h1 : DataW.Trod enc Try.prog W 0 (fun _ => true) true 56 v1 d1 p1)
    (k2 : Value.okWide Try.prog W .any base 3 v2) (h2 : DataW.Trod enc Try.prog W 0 (fun _ => true) true 3 v2 d2 p2)
    {ts : List TypeId} {ds : List (DataW H)} (hsz : (DataW.weightsEach Try.prog ([31, 56, 3] ++ ts) ([d0, d1, d2] ++ ds)).all (· ≤ reachBytes) = true) :
    Calls Try.prog 13 #[v0, v1, v2] W fun e w' => e = .returned (.bool true) ∧ Below W.heap.size W w' := by
  obtain ⟨c0, m, r0, i0, ok0⟩ := Ex.open_agg Ex.opensA_Mp Try.underlying31 rfl k0 h0 (weights_le hsz (j := 0) rfl rfl)
  obtain ⟨c1, g, r1, i1, -⟩ := Ex.open_agg Ex.opensA_Pg Try.underlying56 rfl k1 h1 (weights_le hsz (j := 1) rfl rfl)
  obtain ⟨n, rfl, rfl, rfl, wf⟩ := open_int Try.underlying3 k2 h2
  obtain ⟨vo, vp, vb, rfl, a1, a2, a3, -⟩ := Ex.RMp_is.1 i0
  obtain ⟨rfl, -⟩ := Ex.RPg_is.1 i1
  exact Ex.law_join (Ex.rels_cons r0 (Ex.rels_cons r1 (Ex.rels_cons (Ex.rel_lit rfl) Ex.rels_nil))) (Ex.placeActing_m g.pool g.seed n ⟨a1, a2, a3⟩ (fun b hb => hb) ok0)
end Go.Proofs.Ytkgbeihcepociaa
end
