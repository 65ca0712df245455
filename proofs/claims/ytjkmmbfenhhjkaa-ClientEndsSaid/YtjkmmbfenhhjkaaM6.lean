/- Part 6 of the proof: Rev, Rtc, Rtp, Tk, Dn, Try, Se1, Trp, Cpy, Sel, Act, Ce1, Oba, Ce2, Ce3, Ce4, Ce5, Ce6, Ce7, Ce8, Ce9, ClientEndsWalk. -/
import Derived.Test.YtjkmmbfenhhjkaaM5
open Nat renaming reduceAdd → zrA, reduceSub → zrS, reduceMul → zrM, reduceLT → zrL, reduceEqDiff → zrE, reduceLeDiff → zrD, reduceShiftRight → zrR, reduceMod → zrO
open Int renaming reduceLE → ziE, reduceLT → ziL, reduceToNat → ziN
section

set_option linter.unusedSimpArgs false
set_option linter.unusedVariables false
set_option maxRecDepth 10000
set_option maxHeartbeats 4000000
namespace Go.Proofs.Ytjkmmbfenhhjkaa.Ex
open Go
theorem getD_set {L : List Int} {i k : Nat} {x : Int} (hi : i < L.length) : (L.set i x).getD k 0 = if k = i then x else L.getD k 0 := by
  rw [List.getD_eq_getElem?_getD, List.getElem?_set]
  by_cases h : i = k
  · subst h; simp [hi]
  · rw [if_neg h, if_neg (fun hh => h hh.symm), List.getD_eq_getElem?_getD]
theorem reverse_x {H : AH} {p : Nat} {xs : List Int} (hat : H.at p = some (.cells (iL xs) 3)) (hl : xs.length < 2 ^ 62) :
    WC Try.prog (tabOf Try.prog NT0) S0 65 [.sl p 0 xs.length (.un 1)] H fun r h' => h'.at p = some (.cells (iL xs.reverse) 3) ∧ h'.n = H.n ∧ ∀ b, b ≠ p → h'.at b = H.at b := by
  refine WC_fn Try.func65 rfl rfl ?_
  obtain ⟨n, hn⟩ : ∃ n, n = xs.length := ⟨_, rfl⟩
  rw [← hn]
  have qs1 : isSl (.sl p 0 n (.un 1)) = true := rfl
  have qs2 : lenD (.sl p 0 n (.un 1)) = n := rfl
  have qs3 : slB (.sl p 0 n (.un 1)) = p := rfl
  have qs4 : slO (.sl p 0 n (.un 1)) = 0 := rfl
  have hw0 : IntKind.i64.wrap ((n : Int) - 1) = (n : Int) - 1 - ((0 : Nat) : Int) := (wrap_in (by omega) (by omega)).trans (by omega)
  simp only [core, zrA, zrS, zrM, zrL, zrE, reduceCtorEq, zrD, ziE, ziL, ziN, Try.ntmps65, qs1, qs2, hw0]
  refine WB_ind (fun (i : Nat) t h => ∃ L, h.at p = some (.cells (iL L) 3) ∧ L.length = n ∧ (∀ k, k < n → L.getD k 0 = if k < i ∨ n < k + i + 1 then xs.getD (n - 1 - k) 0 else xs.getD k 0) ∧ h.n = H.n ∧ (∀ b, b ≠ p → h.at b = H.at b) ∧ i ≤ n ∧ t.n = 28 ∧ t.get 0 = .sl p 0 n (.un 1) ∧ t.get 2 = .lit (.int .i64 i) ∧ t.get 3 = .lit (.int .i64 ((n : Int) - 1 - (i : Int)))) (fun i => n - i) ?_ 0 _ _ ?_
  · rintro i t h ⟨L, W1, hL, hk, hhn, hkp, hin, hn, g0, g2, g3⟩ ih
    by_cases hlt : (i : Int) < (n : Int) - 1 - (i : Int)
    · obtain ⟨j, hj⟩ : ∃ j : Nat, (n : Int) - 1 - (i : Int) = (j : Int) := ⟨n - 1 - i, by omega⟩
      have hij : i < j := by omega
      have hjn : j < n := by omega
      have hin' : i < n := by omega
      have hji : n = i + j + 1 := by omega
      have hlt2 : ((i : Int) < (j : Int)) = True := by simp only [eq_iff_iff, iff_true]; omega
      rw [hj] at g3
      have hws : IntKind.i64.wrap ((i : Int) + 1) = ((i + 1 : Nat) : Int) := wrap_succ hin' (by omega)
      have hwj : IntKind.i64.wrap ((j : Int) - 1) = (n : Int) - 1 - ((i + 1 : Nat) : Int) := (wrap_in (by omega) (by omega)).trans (by omega)
      have lp := at_lt W1
      have LW := ld_at (T := tabOf Try.prog NT0) W1
      have hLj := ldL_ints (T := tabOf Try.prog NT0) (e := 3) (by kernel_rfl) (by kernel_rfl) (xs := L) (i := j) (by omega)
      have hLi := ldL_ints (T := tabOf Try.prog NT0) (e := 3) (by kernel_rfl) (by kernel_rfl) (xs := L) (i := i) (by omega)
      have hp1 := put_ints (xs := L) (i := i) (x := L.getD j 0) (by omega)
      have hp2 := put_ints (xs := L.set i (L.getD j 0)) (i := j) (x := L.getD i 0) (by rw [List.length_set]; omega)
      simp only [corem, WB_cond_s, put, ldL, WB_label, List.nil_append, List.drop_zero, List.take_zero, zrA, zrS, zrM, zrL, zrE, reduceCtorEq, zrD, ziE, ziL, ziN, -put, -ldL, hn, g0, g2, g3, hlt2]
      rw [WB_regionD [0, 1, 2, 3, 4, 5, 6, 7, 8, 9, 10, 11, 12, 13, 14, 15] 57894719459764238329548227498075550650561006036747800846190911987956708278272 (by kernel_rfl)]
      repeat (first | ((with_reducible refine WDM_cons ?_; simp only [dw1]; try simp only [dw2, zrA, zrM, zrR, zrO, zrE]); simp only [corem, WB_cond_s, put, ldL, WB_label, List.nil_append, List.drop_zero, List.take_zero, zrA, zrS, zrM, zrL, zrE, reduceCtorEq, zrD, ziE, ziL, ziN, cored, -put, -ldL, hn, g0, g2, g3, qs1, qs2, qs3, qs4, hin', hjn, LW, hLj, hLi, W1, lp, hp1, hp2, hws, hwj]) | simp only [corem, WB_cond_s, put, ldL, WB_label, List.nil_append, List.drop_zero, List.take_zero, zrA, zrS, zrM, zrL, zrE, reduceCtorEq, zrD, ziE, ziL, ziN, cored, -put, -ldL, hn, g0, g2, g3, qs1, qs2, qs3, qs4, hin', hjn, LW, hLj, hLi, W1, lp, hp1, hp2, hws, hwj])
      refine ih (i + 1) _ _ ⟨(L.set i (L.getD j 0)).set j (L.getD i 0), at_put_same _ (by rw [n_put]; exact lp), by simp [hL], fun k hkn => ?_, by rw [n_put, n_put]; exact hhn, fun b hb => by rw [at_put_ne _ (Ne.symm hb), at_put_ne _ (Ne.symm hb)]; exact hkp b hb, by omega, ?_⟩ (by omega)
      · rw [getD_set (by rw [List.length_set]; omega), getD_set (by omega)]
        have q1 := hk i hin'
        have q2 := hk j hjn
        have q3 := hk k hkn
        rw [if_neg (by omega)] at q1 q2
        by_cases c1 : k = j
        · subst c1
          rw [if_pos rfl, if_pos (by omega), q1]
          congr 1
          omega
        · rw [if_neg c1]
          by_cases c2 : k = i
          · subst c2
            rw [if_pos rfl, if_pos (by omega), q2]
            congr 1
            omega
          · rw [if_neg c2, q3]
            by_cases c3 : k < i ∨ n < k + i + 1
            · rw [if_pos c3, if_pos (by omega)]
            · rw [if_neg c3, if_neg (by omega)]
      · simp only [core, zrA, zrS, zrM, zrL, zrE, reduceCtorEq, zrD, ziE, ziL, ziN, hn, g0, g2, g3]
    · have hlt2 : ((i : Int) < (n : Int) - 1 - (i : Int)) = False := by simp only [eq_iff_iff, iff_false]; exact hlt
      simp only [core, zrA, zrS, zrM, zrL, zrE, reduceCtorEq, zrD, ziE, ziL, ziN, hn, g0, g2, g3, hlt2]
      refine ⟨Or.inl trivial, ?_, hhn, hkp⟩
      rw [W1]
      congr 3
      refine List.ext_getElem (by rw [List.length_reverse]; omega) fun k h1 h2 => ?_
      have q := hk k (by omega)
      rw [List.getElem_reverse]
      rw [List.getD_eq_getElem?_getD, List.getElem?_eq_getElem h1] at q
      simp only [Option.getD_some] at q
      rw [q]
      have hx : xs.getD (n - 1 - k) 0 = xs[xs.length - 1 - k]'(by omega) := by
        rw [show n - 1 - k = xs.length - 1 - k by omega, List.getD_eq_getElem?_getD, List.getElem?_eq_getElem (by omega)]
        rfl
      split
      · exact hx
      · rw [← hx]
        congr 1
        omega
  · refine ⟨xs, hat, hn.symm, fun k hk => ?_, rfl, fun _ _ => rfl, Nat.zero_le _, ?_⟩
    · rw [if_neg (by omega)]
    · simp only [core, zrA, zrS, zrM, zrL, zrE, reduceCtorEq, zrD, ziE, ziL, ziN]
      (repeat' apply And.intro) <;> first | rfl | trivial
end Go.Proofs.Ytjkmmbfenhhjkaa.Ex
end

section

set_option linter.unusedSimpArgs false
set_option linter.unusedVariables false
set_option maxRecDepth 10000
set_option maxHeartbeats 4000000
namespace Go.Proofs.Ytjkmmbfenhhjkaa.Ex
open Go
theorem sort_c {H : AH} {p : Nat} {xs : List Int} {c : Cap} {Q : AV → AH → Prop} (hat : H.at p = some (.cells (iL xs) 3)) (hne : xs ≠ []) (hl : xs.length ≤ 4611686018427387903) (hq : Q (.tup []) (H.put p (.cells (iL (srtI xs)) 3))) :
    WC Try.prog (tabOf Try.prog NT0) S0 64 [.sl p 0 xs.length c] H Q := by
  refine WC_sum Try.func64 rfl (g := sSort) rfl ?_ hq
  have h0 : Nat.beq xs.length 0 = false := by
    cases xs with
    | nil => exact absurd rfl hne
    | cons => rfl
  have hi : intsL (iL xs) = some xs := intsL_avI xs
  unfold sSort
  simp only [h0, cond_false, hat, hi]
  have h1 : Nat.beq xs.length xs.length = true := by simp
  have h2 : Nat.ble xs.length 4611686018427387903 = true := Nat.ble_eq_true_of_le hl
  rw [h1, h2]
  rfl
theorem sort_nil_c {H : AH} {Q : AV → AH → Prop} (hq : Q (.tup []) H) : WC Try.prog (tabOf Try.prog NT0) S0 64 [.lit (.slice none 0 0)] H Q :=
  WC_sum Try.func64 rfl (g := sSort) rfl rfl hq
theorem sort_zero_c {H : AH} {p : Nat} {c : Cap} {Q : AV → AH → Prop} (hq : Q (.tup []) H) : WC Try.prog (tabOf Try.prog NT0) S0 64 [.sl p 0 0 c] H Q :=
  WC_sum Try.func64 rfl (g := sSort) rfl rfl hq
theorem compact_c {H : AH} {p : Nat} {xs : List Int} {c : Cap} {Q : AV → AH → Prop} (hat : H.at p = some (.cells (iL xs) 3)) (hne : xs ≠ []) (hl : xs.length ≤ 4611686018427387903) (hq : Q (.sl p 0 (cmpI xs).length c) (H.put p (.cells (iL (cmpO xs)) 3))) :
    WC Try.prog (tabOf Try.prog NT0) S0 66 [.sl p 0 xs.length c] H Q := by
  refine WC_sum Try.func66 rfl (g := sCompact) rfl ?_ hq
  have h0 : Nat.beq xs.length 0 = false := by
    cases xs with
    | nil => exact absurd rfl hne
    | cons => rfl
  have hi : intsL (iL xs) = some xs := intsL_avI xs
  unfold sCompact
  simp only [h0, cond_false, hat, hi]
  have h1 : Nat.beq xs.length xs.length = true := by simp
  have h2 : Nat.ble xs.length 4611686018427387903 = true := Nat.ble_eq_true_of_le hl
  rw [h1, h2]
  rfl
theorem compact_nil_c {H : AH} {Q : AV → AH → Prop} (hq : Q (.lit (.slice none 0 0)) H) : WC Try.prog (tabOf Try.prog NT0) S0 66 [.lit (.slice none 0 0)] H Q :=
  WC_sum Try.func66 rfl (g := sCompact) rfl rfl hq
theorem compact_zero_c {H : AH} {p : Nat} {c : Cap} {Q : AV → AH → Prop} (hq : Q (.sl p 0 0 c) H) : WC Try.prog (tabOf Try.prog NT0) S0 66 [.sl p 0 0 c] H Q :=
  WC_sum Try.func66 rfl (g := sCompact) rfl rfl hq
theorem cmpI_dis {xs : List Int} (hne : ∀ i, i + 1 < xs.length → ¬ xs.getD (i + 1) 0 = xs.getD i 0) : cmpI xs = xs ∧ cmpO xs = xs := by
  have h1 : cmpI xs = xs := by
    refine Lib.compact_all xs fun j hj => ?_
    unfold Lib.keeps
    rw [decide_eq_true_eq]
    cases j with
    | zero => exact .inl rfl
    | succ i =>
      refine .inr fun hh => hne i hj ?_
      have e1 : xs.toArray[i + 1]! = xs.getD (i + 1) 0 := by simp [List.getD_eq_getElem?_getD, List.getElem!_eq_getElem?_getD]
      have e2 : xs.toArray[i + 1 - 1]! = xs.getD i 0 := by simp [List.getD_eq_getElem?_getD, List.getElem!_eq_getElem?_getD]
      rw [e1, e2] at hh
      exact hh
  exact ⟨h1, by unfold cmpO; rw [h1, Nat.sub_self]; simp⟩
theorem reverse_nil {H : AH} : WC Try.prog (tabOf Try.prog NT0) S0 65 [.lit (.slice none 0 0)] H fun r h' => h' = H := by
  refine WC_fn Try.func65 rfl rfl ?_
  have w1 : IntKind.i64.wrap (0 - 1) = -1 := by decide
  have c1 : ((0 : Int) < -1) = False := by decide
  have w2 : IntKind.i64.wrap (((0 : Nat) : Int) - 1) = -1 := by decide
  have q1 : isSl (.lit (.slice none 0 0)) = true := rfl
  have q2 : lenD (.lit (.slice none 0 0)) = 0 := rfl
  simp only [core, zrA, zrS, zrM, zrL, zrE, reduceCtorEq, zrD, ziE, ziL, ziN, Try.ntmps65, q1, q2, w1, w2]
  refine WB_ind (fun (i : Nat) t h => h = H ∧ t.n = 28 ∧ t.get 0 = .lit (.slice none 0 0) ∧ t.get 2 = .lit (.int .i64 0) ∧ t.get 3 = .lit (.int .i64 (-1))) (fun i => 0) ?_ 0 _ _ ?_
  · rintro i t h ⟨rfl, hn, g0, g2, g3⟩ ih
    simp only [core, zrA, zrS, zrM, zrL, zrE, reduceCtorEq, zrD, ziE, ziL, ziN, hn, g0, g2, g3, c1]
    exact Or.inl trivial
  · refine ⟨rfl, ?_⟩
    simp only [core, zrA, zrS, zrM, zrL, zrE, reduceCtorEq, zrD, ziE, ziL, ziN]
/-- The buckets without a parent, in order. -/
def orphN (m : MapD) : Nat → List Int
  | 0 => []
  | i + 1 => if (parentF m (m.buckets.getD i bkt0).id).isSome then orphN m i else orphN m i ++ [(m.buckets.getD i bkt0).id]
theorem orphN_len (m : MapD) : ∀ i, (orphN m i).length ≤ i
  | 0 => Nat.le_refl 0
  | i + 1 => by
    have := orphN_len m i
    unfold orphN
    split
    · omega
    · simp; omega
def crootsF (m : MapD) : List Int := (srtI (orphN m m.buckets.length)).reverse
theorem rootsC_x {F : Nat → Prop} {H : AH} {m : MapD} {vo vp vb : AV} (hm : MpAt F H m vo vp vb) (hok : OkM m) (hdis : ∀ i, i + 1 < (crootsF m).length → ¬ (crootsF m).getD (i + 1) 0 = (crootsF m).getD i 0) :
    WC Try.prog (tabOf Try.prog NT0) S0 59 [mpV m vo vp vb] H fun v h' => Ext H.n H h' ∧ IsSl RInt (fun b => H.n ≤ b) h' v (crootsF m) := by
  refine WC_fn Try.func59 rfl rfl ?_
  obtain ⟨hl, hbs, hit⟩ := hok
  have hl0 := hl
  unfold Sm at hl
  have s1 := hm.b.isSl
  have s2 := hm.b.lenD
  have o1 := hm.o.one
  have o2 := hm.p.one
  have o3 := hm.b.one
  have EP : ∀ x, Ext H.n H (H.push x) := fun x => (Ext.refl _ _).push _ (Nat.le_refl _)
  simp only [core, zrA, zrS, zrM, zrL, zrE, reduceCtorEq, zrD, ziE, ziL, ziN, Try.ntmps59, mpV, s1, s2, o1, o2, o3]
  obtain ⟨h1, hh1⟩ : ∃ h1, h1 = H.push (.cells [.lit (.int .i64 m.epoch), vo, vp, vb, .lit (.int .i64 m.leaf)] 72) := ⟨_, rfl⟩
  have E0 : Ext H.n H h1 := hh1 ▸ EP _
  have A0 : h1.at H.n = some (.cells [.lit (.int .i64 m.epoch), vo, vp, vb, .lit (.int .i64 m.leaf)] 72) := hh1 ▸ at_push_n _ _
  have n1 : h1.n = H.n + 1 := by rw [hh1, n_push]
  rw [← hh1]
  clear hh1
  refine WB_for m.buckets.length (fun i t h => ∃ o, OwnL RInt (fun _ => False) h1.n h o 3 (orphN m i) ∧ Ext h1.n h1 h ∧ t.n = 36 ∧ t.get 1 = .ptr H.n 0 ∧ t.get 3 = o ∧ t.get 9 = vb ∧ t.get 10 = .lit (.int .i64 m.buckets.length) ∧ t.get 11 = .lit (.int .i64 i)) ?_ ?_ _ _ ?_
  · rintro i t h hlt hc ⟨o, ho, he, hn, g1, g3, g9, g10, g11⟩ ih
    obtain ⟨x, hx⟩ : ∃ x, m.buckets[i]? = some x := ⟨_, List.getElem?_eq_getElem hlt⟩
    have E1 : Ext H.n H h := E0.trans (he.mono (by omega))
    obtain ⟨c, hc1, hld, hld0⟩ := hm.b.atE (T := tabOf Try.prog NT0) E1 RBkt_z hx
    obtain ⟨va, vw, rfl, ha, hw, i1, i2⟩ := RBkt_is.1 hc1
    have a1 := ha.one
    have w1 := hw.one
    have hws := wrap_succ hlt (by omega)
    have A1 := (he.2 _ (by omega)).trans A0
    have l1 : H.n < h.n := at_lt A1
    have hstep : orphN m (i + 1) = if (parentF m x.id).isSome then orphN m i else orphN m i ++ [x.id] := by rw [orphN, getD_of hx]
    obtain ⟨hA, hhA⟩ : ∃ hA, hA = h.push (.cells [.lit (.int .i64 x.id), .lit (.int .i64 x.kind), va, vw] 93) := ⟨_, rfl⟩
    have EA : Ext h.n h hA := hhA ▸ (Ext.refl _ _).push _ (Nat.le_refl _)
    have PA : hA.at h.n = some (.cells [.lit (.int .i64 x.id), .lit (.int .i64 x.kind), va, vw] 93) := hhA ▸ at_push_n h _
    have AA := (EA.2 _ l1).trans A1
    have LAA := ld_at (T := tabOf Try.prog NT0) AA
    have lA := at_lt AA
    have LPA := ld_at (T := tabOf Try.prog NT0) PA
    have lPA := at_lt PA
    have EHA := E1.step EA
    simp only [core, zrA, zrS, zrM, zrL, zrE, reduceCtorEq, zrD, ziE, ziL, ziN, s1, s2, hn, g1, g3, g9, g10, g11, hlt, hc, hld, hld0, a1, w1, ← hhA, LPA, lPA, LAA, lA]
    refine (parent_x x.id (hm.ext EHA (Nat.le_refl _)) hl0 hbs).mono ?_
    rintro _ h2 ⟨e2, v1, v2, rfl, b1, b2⟩
    have o4 := b1.one
    have o5 := b2.one
    have E2 := EHA.step e2
    have P2 := (e2.2 _ lPA).trans PA
    have l2 := at_lt P2
    simp only [core, zrA, zrS, zrM, zrL, zrE, reduceCtorEq, zrD, ziE, ziL, ziN, hn, g1, g3, g9, g10, g11, bktV, o4, o5]
    obtain ⟨h3, hh3⟩ : ∃ h3, h3 = h2.push (.cells [.lit (.int .i64 (parentG m x.id).id), .lit (.int .i64 (parentG m x.id).kind), v1, v2] 93) := ⟨_, rfl⟩
    have e3 : Ext h2.n h2 h3 := hh3 ▸ (Ext.refl _ _).push _ (Nat.le_refl _)
    have P3 := (e3.2 _ l2).trans P2
    have l3 := at_lt P3
    have LP3 := ld_at (T := tabOf Try.prog NT0) P3
    have he3 : Ext h1.n h1 h3 := ((he.step EA).step e2).step e3
    have ho3 := ((ho.ext EA (Nat.le_refl _)).ext e2 (Nat.le_refl _)).ext e3 (Nat.le_refl _)
    rw [← hh3]
    clear hh3
    cases hp : (parentF m x.id).isSome with
    | true =>
      rw [hp, if_pos rfl] at hstep
      simp only [core, zrA, zrS, zrM, zrL, zrE, reduceCtorEq, zrD, ziE, ziL, ziN, hn, g1, g3, g9, g10, g11, hws]
      refine ih _ _ ⟨o, by rw [hstep]; exact ho3, he3, ?_⟩
      simp only [core, zrA, zrS, zrM, zrL, zrE, reduceCtorEq, zrD, ziE, ziL, ziN, hn, g1, g3, g9, g10, g11]
    | false =>
      rw [hp, if_neg (by decide)] at hstep
      simp only [core, zrA, zrS, zrM, zrL, zrE, reduceCtorEq, zrD, ziE, ziL, ziN, hn, g1, g3, g9, g10, g11, LP3, l3]
      obtain ⟨h6, hh6⟩ : ∃ h6, h6 = h3.push (.cells [.lit (.int .i64 x.id)] 3) := ⟨_, rfl⟩
      have e6 : Ext h3.n h3 h6 := hh6 ▸ (Ext.refl _ _).push _ (Nat.le_refl _)
      have A6 : h6.at h3.n = some (.cells [.lit (.int .i64 x.id)] 3) := hh6 ▸ at_push_n h3 _
      have n6 := at_lt A6
      rw [← hh6]
      have q0 := he3.1
      have q1 := orphN_len m i
      refine WOp_app ((ho3.ext e6 (Nat.le_refl _)).snoc (by kernel_rfl) (by kernel_rfl) (by kernel_rfl) (zv := .lit (.int .i64 0)) (by kernel_rfl) (by' := 8) (by kernel_rfl) rfl (by decide) (by decide) A6 (y := x.id) ⟨rfl, i1⟩ (by omega) (by omega) (by omega)) ?_
      rintro s' h7 ⟨o7, e7, k7⟩
      have t7 := o7.one
      simp only [core, zrA, zrS, zrM, zrL, zrE, reduceCtorEq, zrD, ziE, ziL, ziN, hn, g1, g3, g9, g10, g11, hws, t7]
      refine ih _ _ ⟨s', by rw [hstep]; exact o7, (he3.step e6).trans e7, ?_⟩
      simp only [core, zrA, zrS, zrM, zrL, zrE, reduceCtorEq, zrD, ziE, ziL, ziN, hn, g1, g3, g9, g10, g11]
  · rintro t h hc ⟨o, ho, he, hn, g1, g3, g9, g10, g11⟩
    have E1 : Ext H.n H h := E0.trans (he.mono (by omega))
    have q1 := orphN_len m m.buckets.length
    obtain ⟨xs, hxs⟩ : ∃ xs, xs = orphN m m.buckets.length := ⟨_, rfl⟩
    rw [← hxs] at ho q1
    have hcr : crootsF m = (srtI xs).reverse := by unfold crootsF; rw [hxs]
    have hsl : (srtI xs).length = xs.length := by unfold srtI; simp
    by_cases hne : xs = []
    · subst hne
      have hcr0 : crootsF m = [] := by rw [hcr]; unfold srtI; simp
      obtain ⟨L, h1', h2'⟩ := ho
      have hL : L = [] := List.eq_nil_of_length_eq_zero h2'.1
      subst hL
      rcases h1'.2 with ⟨rfl, _⟩ | ⟨p, rfl, hp, hat⟩
      · simp only [core, zrA, zrS, zrM, zrL, zrE, reduceCtorEq, zrD, ziE, ziL, ziN, s1, s2, hn, g1, g3, g9, g10, g11, hc]
        refine sort_nil_c ?_
        simp only [core, zrA, zrS, zrM, zrL, zrE, reduceCtorEq, zrD, ziE, ziL, ziN, s1, s2, hn, g1, g3, g9, g10, g11, hc]
        refine reverse_nil.mono ?_
        rintro _ h3 rfl
        simp only [core, zrA, zrS, zrM, zrL, zrE, reduceCtorEq, zrD, ziE, ziL, ziN, s1, s2, hn, g1, g3, g9, g10, g11, hc]
        refine compact_nil_c ?_
        simp only [core, zrA, zrS, zrM, zrL, zrE, reduceCtorEq, zrD, ziE, ziL, ziN, s1, s2, hn, g1, g3, g9, g10, g11, hc]
        rw [hcr0]
        exact ⟨E1, IsSl.nil⟩
      · have hat : h.at p = some (.cells (iL []) 3) := hat
        simp only [core, zrA, zrS, zrM, zrL, zrE, reduceCtorEq, zrD, ziE, ziL, ziN, s1, s2, hn, g1, g3, g9, g10, g11, hc]
        refine sort_zero_c ?_
        simp only [core, zrA, zrS, zrM, zrL, zrE, reduceCtorEq, zrD, ziE, ziL, ziN, s1, s2, hn, g1, g3, g9, g10, g11, hc]
        refine (reverse_x hat (by decide)).mono ?_
        rintro _ h3 ⟨hat3, hn3, hk3⟩
        have E3 : Ext H.n H h3 := ⟨by rw [hn3]; exact E1.1, fun b hb => (hk3 b (by omega)).trans (E1.2 b hb)⟩
        have ho3 : OwnL RInt (fun _ => False) H.n h3 (.sl p 0 ([] : List Int).length (.un 1)) 3 [] := OwnL.ofInts (by omega) hat3 (fun y hy => by cases hy)
        have hv3 : IsSl RInt (fun b => H.n ≤ b) h3 (.sl p 0 0 (.un 1)) [] := ho3.toSl (fun _ hf => hf.elim) (fun b hb => hb)
        simp only [core, zrA, zrS, zrM, zrL, zrE, reduceCtorEq, zrD, ziE, ziL, ziN, s1, s2, hn, g1, g3, g9, g10, g11, hc]
        refine compact_zero_c ?_
        simp only [core, zrA, zrS, zrM, zrL, zrE, reduceCtorEq, zrD, ziE, ziL, ziN, s1, s2, hn, g1, g3, g9, g10, g11, hc]
        rw [hcr0]
        exact ⟨E3, hv3⟩
    · obtain ⟨p, rfl, hp, hat, hI⟩ := ho.ints hne
      simp only [core, zrA, zrS, zrM, zrL, zrE, reduceCtorEq, zrD, ziE, ziL, ziN, s1, s2, hn, g1, g3, g9, g10, g11, hc]
      refine sort_c hat hne (by omega) ?_
      obtain ⟨h2, hh2⟩ : ∃ h2, h2 = h.put p (.cells (iL (srtI xs)) 3) := ⟨_, rfl⟩
      have hat2 : h2.at p = some (.cells (iL (srtI xs)) 3) := hh2 ▸ at_put_same _ (at_lt hat)
      have E2 : Ext H.n H h2 := hh2 ▸ E1.put _ (by omega)
      rw [← hh2]
      clear hh2
      simp only [core, zrA, zrS, zrM, zrL, zrE, reduceCtorEq, zrD, ziE, ziL, ziN, s1, s2, hn, g1, g3, g9, g10, g11, hc]
      have hrv := reverse_x hat2 (by omega)
      rw [hsl] at hrv
      refine hrv.mono ?_
      rintro _ h3 ⟨hat3, hn3, hk3⟩
      have E3 : Ext H.n H h3 := ⟨by rw [hn3]; exact E2.1, fun b hb => (hk3 b (by omega)).trans (E2.2 b hb)⟩
      have hlr : (srtI xs).reverse.length = xs.length := by simp [hsl]
      have hI2 : ∀ y ∈ (srtI xs).reverse, I64 y := fun y hy => hI y (by
        rw [List.mem_reverse] at hy
        unfold srtI at hy
        exact (List.mergeSort_perm _ _).mem_iff.1 hy)
      have ho3 : OwnL RInt (fun _ => False) H.n h3 (.sl p 0 (srtI xs).reverse.length (.un 1)) 3 (srtI xs).reverse := OwnL.ofInts (by omega) hat3 hI2
      have hv3 : IsSl RInt (fun b => H.n ≤ b) h3 (.sl p 0 xs.length (.un 1)) (crootsF m) := by
        rw [hcr, ← hlr]
        exact ho3.toSl (fun _ hf => hf.elim) (fun b hb => hb)
      simp only [core, zrA, zrS, zrM, zrL, zrE, reduceCtorEq, zrD, ziE, ziL, ziN, s1, s2, hn, g1, g3, g9, g10, g11, hc]
      rw [hcr] at hdis
      obtain ⟨d1, d2⟩ := cmpI_dis hdis
      have hne3 : (srtI xs).reverse ≠ [] := fun hh => hne (List.eq_nil_of_length_eq_zero (by rw [← hlr, hh]; rfl))
      rw [← hlr]
      refine compact_c hat3 hne3 (by rw [hlr]; omega) ?_
      rw [d1, d2]
      simp only [core, zrA, zrS, zrM, zrL, zrE, reduceCtorEq, zrD, ziE, ziL, ziN, s1, s2, hn, g1, g3, g9, g10, g11, hc]
      refine ⟨E3.put _ (by omega), ?_⟩
      have ho4 : OwnL RInt (fun _ => False) H.n (h3.put p (.cells (iL (srtI xs).reverse) 3)) (.sl p 0 (srtI xs).reverse.length (.un 1)) 3 (srtI xs).reverse := OwnL.ofInts (by omega) (at_put_same _ (at_lt hat3)) hI2
      rw [hcr]
      exact ho4.toSl (fun _ hf => hf.elim) (fun b hb => hb)
  · refine ⟨_, OwnL.nil, Ext.refl _ _, ?_⟩
    simp only [core, zrA, zrS, zrM, zrL, zrE, reduceCtorEq, zrD, ziE, ziL, ziN]
    (repeat' apply And.intro) <;> first | rfl | trivial
end Go.Proofs.Ytjkmmbfenhhjkaa.Ex
end

section

set_option linter.unusedSimpArgs false
set_option linter.unusedVariables false
set_option maxRecDepth 10000
set_option maxHeartbeats 4000000
namespace Go.Proofs.Ytjkmmbfenhhjkaa.Ex
open Go
theorem insD_perm {x : Int} {l : List Int} : (insD x l).Perm (x :: l) := by
  unfold insD
  have h := (List.perm_middle (a := x) (l₁ := l.take (posF x l l.length)) (l₂ := l.drop (posF x l l.length)))
  rw [List.take_append_drop] at h
  exact h
theorem posF_spec {x : Int} {l : List Int} : ∀ n, n ≤ l.length → (∀ k, posF x l n ≤ k → k < n → l.getD k 0 < x) ∧ (0 < posF x l n → x ≤ l.getD (posF x l n - 1) 0)
  | 0, _ => ⟨fun k h1 h2 => by omega, fun h => by unfold posF at h; omega⟩
  | n + 1, hn => by
    obtain ⟨h1, h2⟩ := posF_spec (x := x) (l := l) n (by omega)
    unfold posF
    split
    · rename_i hq
      refine ⟨fun k h3 h4 => ?_, h2⟩
      by_cases hk : k = n
      · subst hk; simpa using hq
      · exact h1 k h3 (by omega)
    · rename_i hq
      refine ⟨fun k h3 h4 => by omega, fun _ => ?_⟩
      simpa using hq
theorem desc_get {l : List Int} (hs : l.Pairwise (fun a b => b < a)) {i j : Nat} (hij : i < j) (hj : j < l.length) : l.getD j 0 < l.getD i 0 := by
  rw [List.getD_eq_getElem?_getD, List.getD_eq_getElem?_getD, List.getElem?_eq_getElem hj, List.getElem?_eq_getElem (by omega)]
  exact List.pairwise_iff_getElem.1 hs i j (by omega) hj hij
theorem insD_desc {x : Int} {l : List Int} (hs : l.Pairwise (fun a b => b < a)) (hx : x ∉ l) : (insD x l).Pairwise (fun a b => b < a) := by
  obtain ⟨h1, h2⟩ := posF_spec (x := x) (l := l) l.length (Nat.le_refl _)
  have hp := posF_le x l l.length
  unfold insD
  rw [List.pairwise_append]
  refine ⟨hs.sublist (List.take_sublist _ _), List.pairwise_cons.2 ⟨fun y hy => ?_, hs.sublist (List.drop_sublist _ _)⟩, fun y hy z hz => ?_⟩
  · obtain ⟨j, hj, rfl⟩ := List.mem_iff_getElem.1 hy
    rw [List.length_drop] at hj
    have := h1 (posF x l l.length + j) (by omega) (by omega)
    rw [List.getD_eq_getElem?_getD, List.getElem?_eq_getElem (by omega)] at this
    rw [List.getElem_drop]
    exact this
  · obtain ⟨j, hj, rfl⟩ := List.mem_iff_getElem.1 hy
    rw [List.length_take] at hj
    have hjl : j < l.length := by omega
    have hyx : x < (l.take (posF x l l.length))[j] := by
      have e : (l.take (posF x l l.length))[j] = l.getD j 0 := by
        rw [List.getElem_take, List.getD_eq_getElem?_getD, List.getElem?_eq_getElem hjl]
        rfl
      rw [e]
      have h3 := h2 (by omega)
      have h4 : l.getD (posF x l l.length - 1) 0 ≤ l.getD j 0 := by
        by_cases hh : j = posF x l l.length - 1
        · rw [← hh]; exact Int.le_refl _
        · exact Int.le_of_lt (desc_get hs (by omega) (by omega))
      have h5 : l.getD j 0 ≠ x := fun hh => hx (by
        rw [← hh, List.getD_eq_getElem?_getD, List.getElem?_eq_getElem hjl]
        exact List.getElem_mem hjl)
      omega
    rcases List.mem_cons.1 hz with rfl | hz
    · exact hyx
    · obtain ⟨k, hk, rfl⟩ := List.mem_iff_getElem.1 hz
      rw [List.length_drop] at hk
      have := h1 (posF x l l.length + k) (by omega) (by omega)
      rw [List.getD_eq_getElem?_getD, List.getElem?_eq_getElem (by omega)] at this
      rw [List.getElem_drop]
      exact Int.lt_trans this hyx
theorem parent_within {m : MapD} {id : Int} : (parentF m id).isSome = withinF m id := by
  unfold parentF withinF
  apply Bool.eq_iff_iff.2
  rw [List.find?_isSome, List.any_eq_true]
theorem good_once {m : MapD} (hg : goodF m = true) {i : Nat} (hi : i < m.buckets.length) : twiceF m i = false := by
  unfold goodF at hg
  simp only [Bool.and_eq_true] at hg
  have := List.all_eq_true.1 hg.2 i (List.mem_range.2 hi)
  unfold bOk hdOk at this
  simp only [Bool.and_eq_true] at this
  have h := this.1.1.1.1.1.1
  unfold twiceF
  simpa using h
theorem roots_walk {m : MapD} (hg : goodF m = true) : ∀ i, i ≤ m.buckets.length → (rootsN m i).Perm (orphN m i) ∧ (rootsN m i).Pairwise (fun a b => b < a) ∧ ∀ y ∈ orphN m i, ∃ c ∈ m.buckets.take i, c.id = y
  | 0, _ => ⟨List.Perm.refl _, List.Pairwise.nil, fun y hy => by cases hy⟩
  | i + 1, hi => by
    obtain ⟨h1, h2, h3⟩ := roots_walk hg i (by omega)
    have hx : m.buckets[i]? = some (m.buckets.getD i bkt0) := getD_some' bkt0 (by omega)
    have htk : m.buckets.take (i + 1) = m.buckets.take i ++ [m.buckets.getD i bkt0] := by rw [List.take_add_one, hx]; rfl
    unfold rootsN orphN
    rw [good_once hg (by omega), Bool.or_false, parent_within]
    cases hw : withinF m (m.buckets.getD i bkt0).id with
    | true =>
      refine ⟨h1, h2, fun y hy => ?_⟩
      obtain ⟨c, hc, hcy⟩ := h3 y hy
      exact ⟨c, by rw [htk]; exact List.mem_append.2 (.inl hc), hcy⟩
    | false =>
      have hno : (m.buckets.getD i bkt0).id ∉ rootsN m i := fun hmem => by
        obtain ⟨c, hc, hcy⟩ := h3 _ (h1.mem_iff.1 hmem)
        have := good_once hg (show i < m.buckets.length by omega)
        unfold twiceF at this
        rw [List.any_eq_false] at this
        exact this c hc (by simpa using hcy)
      refine ⟨?_, insD_desc h2 hno, fun y hy => ?_⟩
      · refine insD_perm.trans ((List.Perm.cons _ h1).trans ?_)
        exact (List.perm_append_comm (l₁ := [_]) (l₂ := orphN m i))
      · rcases List.mem_append.1 hy with hy | hy
        · obtain ⟨c, hc, hcy⟩ := h3 y hy
          exact ⟨c, by rw [htk]; exact List.mem_append.2 (.inl hc), hcy⟩
        · exact ⟨m.buckets.getD i bkt0, by rw [htk]; exact List.mem_append.2 (.inr (List.mem_cons_self ..)), (List.mem_singleton.1 hy).symm⟩
theorem roots_same {m : MapD} (hg : goodF m = true) : crootsF m = rootsR m := by
  obtain ⟨h1, h2, _⟩ := roots_walk hg m.buckets.length (Nat.le_refl _)
  unfold crootsF rootsR
  refine List.Perm.eq_of_pairwise (le := fun a b => b ≤ a) (fun a b _ _ h3 h4 => Int.le_antisymm h4 h3) ?_ (h2.imp fun h => Int.le_of_lt h) ((List.reverse_perm _).trans ((List.mergeSort_perm _ _).trans h1.symm))
  rw [List.pairwise_reverse]
  unfold srtI
  have := List.pairwise_mergeSort (le := fun x y : Int => decide (x ≤ y)) (fun a b c h h' => by simp at *; omega) (fun a b => by simp; omega) (orphN m m.buckets.length)
  exact this.imp fun h => by simpa using h
theorem croots_dis {m : MapD} (hg : goodF m = true) : ∀ i, i + 1 < (crootsF m).length → ¬ (crootsF m).getD (i + 1) 0 = (crootsF m).getD i 0 := fun i hi => by
  obtain ⟨_, h2, _⟩ := roots_walk hg m.buckets.length (Nat.le_refl _)
  rw [roots_same hg] at hi ⊢
  have := desc_get (l := rootsR m) h2 (show i < i + 1 by omega) hi
  omega
theorem rootsG_x {F : Nat → Prop} {H : AH} {m : MapD} {vo vp vb : AV} (hm : MpAt F H m vo vp vb) (hok : OkM m) (hg : goodF m = true) :
    WC Try.prog (tabOf Try.prog NT0) S0 59 [mpV m vo vp vb] H fun v h' => Ext H.n H h' ∧ IsSl RInt (fun b => H.n ≤ b) h' v (rootsR m) := by
  rw [← roots_same hg]
  exact rootsC_x hm hok (croots_dis hg)
end Go.Proofs.Ytjkmmbfenhhjkaa.Ex
end

section

set_option linter.unusedSimpArgs false
set_option linter.unusedVariables false
set_option maxRecDepth 10000
set_option maxHeartbeats 8000000
namespace Go.Proofs.Ytjkmmbfenhhjkaa.Ex
open Go
/-- A chooser's cells. -/
def chC (m : MapD) (vo vp vb : AV) (x : Int) (vs vq : AV) : List AV := [.lit (.int .i64 m.epoch), vo, vp, vb, .lit (.int .i64 m.leaf), .lit (.int .u32 x), vs, vq]
theorem takes_x {F G : Nat → Prop} {H : AH} {m : MapD} {vo vp vb vs vq : AV} {x : Int} {os : List Int} {p k : Nat} (hm : MpAt F H m vo vp vb) (hl : Sm 40 m.osds) (hp : H.at p = some (.cells (chC m vo vp vb x vs vq) 164)) (hs : IsSl RInt G H vs os) (hsl : os.length ≤ 1000) :
    WC Try.prog (tabOf Try.prog NT0) S0 72 [.ptr p 0, .lit (.int .i64 k)] H fun r h' => Ext H.n H h' ∧ r = .lit (.bool (mayF m k x && !os.contains (k : Int))) := by
  refine WC_fn Try.func72 rfl rfl ?_
  unfold Sm at hl
  unfold chC at hp
  have s1 := hm.o.isSl
  have s2 := hm.o.lenD
  have s3 := hs.isSl
  have lp := at_lt hp
  have LP := ld_at (T := tabOf Try.prog NT0) hp
  by_cases hk : k < m.osds.length
  rotate_left
  · have c1 : (m.osds.length : Int) ≤ (k : Int) := by omega
    simp only [core, zrA, zrS, zrM, zrL, zrE, reduceCtorEq, zrD, ziE, ziL, ziN, Try.ntmps72, LP, lp, s1, s2, c1]
    refine ⟨Ext.refl _ _, ?_⟩
    have : m.osds[k]? = none := List.getElem?_eq_none (by omega)
    unfold mayF
    rw [if_pos (by omega), Int.toNat_natCast, this]
    rfl
  have c1 : ¬ (m.osds.length : Int) ≤ (k : Int) := by omega
  obtain ⟨o, ho⟩ : ∃ o, m.osds[k]? = some o := ⟨_, List.getElem?_eq_getElem hk⟩
  have hres : mayF m (k : Int) x = mayO o (k : Int) x := by unfold mayF; rw [if_pos (by omega), Int.toNat_natCast, ho]
  simp only [core, zrA, zrS, zrM, zrL, zrE, reduceCtorEq, zrD, ziE, ziL, ziN, Try.ntmps72, LP, lp, s1, s2, c1]
  refine (contains_x (k : Int) hs (by omega)).mono ?_
  rintro _ h1 ⟨rfl, rfl⟩
  cases hco : os.contains (k : Int) with
  | true =>
    simp only [core, zrA, zrS, zrM, zrL, zrE, reduceCtorEq, zrD, ziE, ziL, ziN]
    exact Ext.refl _ _
  | false =>
  obtain ⟨c, hc1, hld, hld0⟩ := hm.o.atE (T := tabOf Try.prog NT0) (Ext.refl _ _) ROsd_z ho
  obtain ⟨rfl, -⟩ := ROsd_is.1 hc1
  simp only [core, zrA, zrS, zrM, zrL, zrE, reduceCtorEq, zrD, ziE, ziL, ziN, LP, lp, s1, s2, hk, hld, hld0]
  obtain ⟨hA, hhA⟩ : ∃ hA, hA = h1.push (.cells [.lit (.bool o.ex), .lit (.bool o.up), .lit (.int .i64 o.weight), .lit (.int .i64 o.boot), .lit (.int .i64 o.upFrom), .lit (.int .i64 o.upThru)] 113) := ⟨_, rfl⟩
  have EA : Ext h1.n h1 hA := hhA ▸ (Ext.refl _ _).push _ (Nat.le_refl _)
  have PA : hA.at h1.n = some (.cells [.lit (.bool o.ex), .lit (.bool o.up), .lit (.int .i64 o.weight), .lit (.int .i64 o.boot), .lit (.int .i64 o.upFrom), .lit (.int .i64 o.upThru)] 113) := hhA ▸ at_push_n _ _
  have LA := ld_at (T := tabOf Try.prog NT0) PA
  have la := at_lt PA
  have PC := (EA.2 _ lp).trans hp
  have LC := ld_at (T := tabOf Try.prog NT0) PC
  have lc := at_lt PC
  rw [← hhA]
  clear hhA
  rw [WB_regionD [0, 1, 2, 3, 4, 5, 6, 7, 8, 9, 10, 11, 13, 14, 15, 16, 17, 18, 22, 23, 12, 19, 20, 21, 24, 25, 26] 1412006963573700906660700069524118243616869760544256360968249721346466011565351973626593501215177518672908580619239046012223972200766817852166722705780488590525571064120266307589064219363529374100029332153996355833954304 (by kernel_rfl)]
  cases hex : o.ex with
  | false =>
    repeat (first | ((with_reducible refine WDM_cons ?_; simp only [dw1]; try simp only [dw2, zrA, zrM, zrR, zrO, zrE]); simp only [core, zrA, zrS, zrM, zrL, zrE, reduceCtorEq, zrD, ziE, ziL, ziN, cored, LA, la, hex]) | simp only [core, zrA, zrS, zrM, zrL, zrE, reduceCtorEq, zrD, ziE, ziL, ziN, cored, LA, la, hex])
    exact ⟨EA, by rw [hres]; unfold mayO; rw [hex]; rfl⟩
  | true =>
  cases hup : o.up with
  | false =>
    repeat (first | ((with_reducible refine WDM_cons ?_; simp only [dw1]; try simp only [dw2, zrA, zrM, zrR, zrO, zrE]); simp only [core, zrA, zrS, zrM, zrL, zrE, reduceCtorEq, zrD, ziE, ziL, ziN, cored, LA, la, hex, hup]) | simp only [core, zrA, zrS, zrM, zrL, zrE, reduceCtorEq, zrD, ziE, ziL, ziN, cored, LA, la, hex, hup])
    exact ⟨EA, by rw [hres]; unfold mayO; rw [hex, hup]; rfl⟩
  | true =>
  by_cases hwt : 0 < o.weight
  · repeat (first | ((with_reducible refine WDM_cons ?_; simp only [dw1]; try simp only [dw2, zrA, zrM, zrR, zrO, zrE]); simp only [core, zrA, zrS, zrM, zrL, zrE, reduceCtorEq, zrD, ziE, ziL, ziN, cored, LA, la, LC, lc, hex, hup, hwt]) | simp only [core, zrA, zrS, zrM, zrL, zrE, reduceCtorEq, zrD, ziE, ziL, ziN, cored, LA, la, LC, lc, hex, hup, hwt])
    refine new_x.mono ?_
    rintro _ h2 ⟨q, rfl, e2⟩
    have E2 := EA.step e2
    have P2 := (e2.2 _ la).trans PA
    have L2 := ld_at (T := tabOf Try.prog NT0) P2
    have l2 := at_lt P2
    have C2 := (e2.2 _ lc).trans PC
    have LC2 := ld_at (T := tabOf Try.prog NT0) C2
    have lc2 := at_lt C2
    have h65 : ¬ (65536 : Int) = 0 := by decide
    repeat (first | ((with_reducible refine WDM_cons ?_; simp only [dw1]; try simp only [dw2, zrA, zrM, zrR, zrO, zrE]); simp only [core, zrA, zrS, zrM, zrL, zrE, reduceCtorEq, zrD, ziE, ziL, ziN, cored, L2, l2, LC2, lc2, hex, hup, hwt, h65]) | simp only [core, zrA, zrS, zrM, zrL, zrE, reduceCtorEq, zrD, ziE, ziL, ziN, cored, L2, l2, LC2, lc2, hex, hup, hwt, h65])
    refine hash2_c ?_
    repeat (first | ((with_reducible refine WDM_cons ?_; simp only [dw1]; try simp only [dw2, zrA, zrM, zrR, zrO, zrE]); simp only [core, zrA, zrS, zrM, zrL, zrE, reduceCtorEq, zrD, ziE, ziL, ziN, cored, L2, l2, LC2, lc2, hex, hup, hwt, h65]) | simp only [core, zrA, zrS, zrM, zrL, zrE, reduceCtorEq, zrD, ziE, ziL, ziN, cored, L2, l2, LC2, lc2, hex, hup, hwt, h65])
    refine ⟨E2, ?_⟩
    rw [hres]; unfold mayO; rw [hex, hup, decide_eq_true hwt]; simp
  · repeat (first | ((with_reducible refine WDM_cons ?_; simp only [dw1]; try simp only [dw2, zrA, zrM, zrR, zrO, zrE]); simp only [core, zrA, zrS, zrM, zrL, zrE, reduceCtorEq, zrD, ziE, ziL, ziN, cored, LA, la, hex, hup, hwt]) | simp only [core, zrA, zrS, zrM, zrL, zrE, reduceCtorEq, zrD, ziE, ziL, ziN, cored, LA, la, hex, hup, hwt])
    exact ⟨EA, by rw [hres]; unfold mayO; rw [hex, hup, decide_eq_false hwt]; rfl⟩
end Go.Proofs.Ytjkmmbfenhhjkaa.Ex
end

section

set_option linter.unusedSimpArgs false
set_option linter.unusedVariables false
set_option maxRecDepth 10000
set_option maxHeartbeats 4000000
namespace Go.Proofs.Ytjkmmbfenhhjkaa.Ex
open Go
theorem good_bkt {m : MapD} (hg : goodF m = true) {id : Int} {b : BktD} (hb : bucketF m id = some b) :
    b ∈ m.buckets ∧ b.id = id ∧ 1 ≤ b.kind ∧ b.kind ≤ 3 ∧ b.id < 0 ∧ b.items.length = b.weights.length ∧ (∀ i, i < b.items.length → 0 ≤ kindF m (b.items.getD i 0) ∧ kindF m (b.items.getD i 0) < b.kind) ∧ ∀ i, i < b.weights.length → wOk (b.weights.getD i 0) = true := by
  have hm := List.mem_of_find?_eq_some hb
  have hid := List.find?_some hb
  obtain ⟨j, hj, hjb⟩ := List.mem_iff_getElem.1 hm
  have hx : m.buckets[j]? = some b := by rw [List.getElem?_eq_getElem hj, hjb]
  unfold goodF at hg
  simp only [Bool.and_eq_true] at hg
  have := List.all_eq_true.1 hg.2 j (List.mem_range.2 hj)
  rw [getD_of hx] at this
  unfold bOk hdOk at this
  simp only [Bool.and_eq_true, decide_eq_true_eq, beq_iff_eq] at this
  obtain ⟨⟨⟨⟨⟨⟨a1, a2⟩, a3⟩, a4⟩, a5⟩, a6⟩, a7⟩ := this
  refine ⟨hm, by simpa using hid, a3, a4, a2, a5, fun i hi => ?_, fun i hi => ?_⟩
  · have := List.all_eq_true.1 a7 i (List.mem_range.2 hi)
    unfold itemOk at this
    simp only [Bool.and_eq_true, decide_eq_true_eq] at this
    exact this.1
  · exact List.all_eq_true.1 a6 _ (List.mem_of_getElem? (getD_some' 0 hi))
theorem kind_bkt {m : MapD} {id : Int} (hid : id < 0) {b : BktD} (hb : bucketF m id = some b) : kindF m id = b.kind := by
  unfold kindF bucketG
  rw [if_neg (by omega), hb]
  rfl
def downF (m : MapD) (k x r : Int) : Nat → Int → Option Int
  | 0, _ => none
  | n + 1, at' => match bucketF m at' with
    | none => none
    | some b => match chooseF b.items b.weights x r with
      | none => none
      | some i => if 0 ≤ b.items.getD i 0 ∨ kindF m (b.items.getD i 0) = k then some (b.items.getD i 0) else downF m k x r n (b.items.getD i 0)
end Go.Proofs.Ytjkmmbfenhhjkaa.Ex
end

section

set_option linter.unusedSimpArgs false
set_option linter.unusedVariables false
set_option maxRecDepth 10000
set_option maxHeartbeats 4000000
namespace Go.Proofs.Ytjkmmbfenhhjkaa.Ex
open Go
/-- Is a bucket the one that is had alone? -/
def hitF (m : MapD) (at0 a : Int) (hv : Bool) : Bool := !hv && decide (0 < m.leaf) && ((bucketG m a).kind == m.leaf) && (a != at0)
/-- The way down: the item, and the bucket. -/
def wayF (m : MapD) (at0 x r : Int) (ds : List Int) : Nat → Int → Int → Bool → Option (Int × Int)
  | 0, _, _, _ => none
  | n + 1, a, dm, hv => if 0 ≤ a then some (a, if hv then dm else a) else
    if hitF m at0 a hv && ds.contains a then none else
    match chooseF (bucketG m a).items (bucketG m a).weights x r with
    | none => none
    | some i => wayF m at0 x r ds n ((bucketG m a).items.getD i 0) (if hitF m at0 a hv then a else dm) (hv || hitF m at0 a hv)
def tryC (m : MapD) (at0 x r : Int) (os ds : List Int) : Int × Int × Bool := match wayF m at0 x r ds 4 at0 0 false with
  | none => (0, 0, false)
  | some (o, d) => (o, d, mayF m o x && !os.contains o)
def tryV (y : Int × Int × Bool) : AV := .tup [.lit (.int .i64 y.1), .lit (.int .i64 y.2.1), .lit (.bool y.2.2)]
theorem tryC_x {F G : Nat → Prop} {H : AH} {m : MapD} {vo vp vb vs vq : AV} {x : Int} {os ds : List Int} {p : Nat} (at0 r : Int) (hm : MpAt F H m vo vp vb) (hok : OkM m) (hlo : Sm 40 m.osds) (hg : goodF m = true)
    (hp : H.at p = some (.cells (chC m vo vp vb x vs vq) 164)) (hs : IsSl RInt G H vs os) (hq : IsSl RInt G H vq ds) (hsl : os.length ≤ 1000) (hql : ds.length ≤ 1000) (ha : kindF m at0 ≤ 3) :
    WC Try.prog (tabOf Try.prog NT0) S0 67 [.ptr p 0, .lit (.int .i64 at0), .lit (.int .i64 r)] H fun v h' => Ext H.n H h' ∧ v = tryV (tryC m at0 x r os ds) := by
  refine WC_fn Try.func67 rfl rfl ?_
  obtain ⟨hl, hbs, hit⟩ := id hok
  have o1 := hm.o.one
  have o2 := hm.p.one
  have o3 := hm.b.one
  have q1 := hq.isSl
  have q2 := hq.lenD
  unfold chC at hp
  have lp := at_lt hp
  simp only [core, zrA, zrS, zrM, zrL, zrE, reduceCtorEq, zrD, ziE, ziL, ziN, Try.ntmps67]
  refine WB_ind (fun (n : Nat) t h => ∃ a dm hv, Ext H.n H h ∧ 1 ≤ n ∧ kindF m a < (n : Int) ∧ wayF m at0 x r ds n a dm hv = wayF m at0 x r ds 4 at0 0 false ∧ t.n = 88 ∧ t.get 0 = .ptr p 0 ∧ t.get 1 = .lit (.int .i64 at0) ∧ t.get 2 = .lit (.int .i64 r) ∧ t.get 9 = .lit (.int .i64 a) ∧ t.get 10 = .lit (.int .i64 dm) ∧ t.get 11 = .lit (.bool hv)) (fun n => n) ?_ 4 _ _ ?_
  · rintro n t h ⟨a, dm, hv, E1, hn1, hkd, hD, hn, g0, g1, g2, g9, g10, g11⟩ ih
    obtain ⟨n, rfl⟩ : ∃ n', n = n' + 1 := ⟨n - 1, by omega⟩
    rw [wayF] at hD
    have P1 := (E1.2 _ lp).trans hp
    have LP1 := ld_at (T := tabOf Try.prog NT0) P1
    have l1 := at_lt P1
    by_cases h0 : 0 ≤ a
    · have h0' : (a < 0) = False := by simp only [eq_iff_iff, iff_false]; omega
      rw [if_pos h0] at hD
      obtain ⟨k, rfl⟩ : ∃ k : Nat, a = (k : Int) := ⟨a.toNat, by omega⟩
      have hsE := hs.ext E1 (Nat.le_refl _)
      have hmE := hm.ext E1 (Nat.le_refl _)
      have hT : tryC m at0 x r os ds = ((k : Int), (if hv then dm else (k : Int)), mayF m k x && !os.contains (k : Int)) := by
        unfold tryC
        rw [← hD]
      cases hv with
      | true =>
        simp only [core, zrA, zrS, zrM, zrL, zrE, reduceCtorEq, zrD, ziE, ziL, ziN, hn, g0, g1, g2, g9, g10, g11, h0']
        refine (takes_x (k := k) hmE hlo P1 hsE hsl).mono ?_
        rintro _ h2 ⟨e2, rfl⟩
        simp only [core, zrA, zrS, zrM, zrL, zrE, reduceCtorEq, zrD, ziE, ziL, ziN, hn, g0, g1, g2, g9, g10, g11]
        exact ⟨E1.step e2, by rw [hT]; rfl⟩
      | false =>
        simp only [core, zrA, zrS, zrM, zrL, zrE, reduceCtorEq, zrD, ziE, ziL, ziN, hn, g0, g1, g2, g9, g10, g11, h0']
        refine (takes_x (k := k) hmE hlo P1 hsE hsl).mono ?_
        rintro _ h2 ⟨e2, rfl⟩
        simp only [core, zrA, zrS, zrM, zrL, zrE, reduceCtorEq, zrD, ziE, ziL, ziN, hn, g0, g1, g2, g9, g10, g11]
        exact ⟨E1.step e2, by rw [hT]; rfl⟩
    · have h0' : (a < 0) = True := by simp only [eq_iff_iff, iff_true]; omega
      rw [if_neg h0] at hD
      simp only [core, zrA, zrS, zrM, zrL, zrE, reduceCtorEq, zrD, ziE, ziL, ziN, hn, g0, g1, g2, g9, g10, g11, h0', LP1, l1, chC]
      refine (bucket_x a (hm.ext E1 (Nat.le_refl _)) hl hbs).mono ?_
      rintro _ h2 ⟨e2, va, vw, rfl, b1, b2⟩
      have o4 := b1.one
      have o5 := b2.one
      have E2 := E1.step e2
      simp only [core, zrA, zrS, zrM, zrL, zrE, reduceCtorEq, zrD, ziE, ziL, ziN, hn, g0, g1, g2, g9, g10, g11, bktV, o4, o5]
      obtain ⟨h3, hh3⟩ : ∃ h3, h3 = h2.push (.cells [.lit (.int .i64 (bucketG m a).id), .lit (.int .i64 (bucketG m a).kind), va, vw] 93) := ⟨_, rfl⟩
      have e3 : Ext h2.n h2 h3 := hh3 ▸ (Ext.refl _ _).push _ (Nat.le_refl _)
      have B3 : h3.at h2.n = some (.cells [.lit (.int .i64 (bucketG m a).id), .lit (.int .i64 (bucketG m a).kind), va, vw] 93) := hh3 ▸ at_push_n _ _
      have LB3 := ld_at (T := tabOf Try.prog NT0) B3
      have lb3 := at_lt B3
      rw [← hh3]
      clear hh3
      have E3 := E2.step e3
      have P3 := (E3.2 _ lp).trans hp
      have LP3 := ld_at (T := tabOf Try.prog NT0) P3
      have l3 := at_lt P3
      have c3 := b1.ext e3 (Nat.le_refl _)
      have c4 := b2.ext e3 (Nat.le_refl _)
      refine WB_cut (fun t h' => h' = h3 ∧ t.n = 88 ∧ t.get 0 = .ptr p 0 ∧ t.get 1 = .lit (.int .i64 at0) ∧ t.get 2 = .lit (.int .i64 r) ∧ t.get 9 = .lit (.int .i64 a) ∧ t.get 10 = .lit (.int .i64 dm) ∧ t.get 11 = .lit (.bool hv) ∧ t.get 12 = .ptr h2.n 0 ∧ t.get 52 = .lit (.bool (hitF m at0 a hv))) (fun k' K' hk => ?_) ?_
      · rw [WB_regionD [0, 1, 2, 3, 4, 5, 6, 7, 8, 9, 10, 11, 12, 13, 14, 15, 16, 17, 18, 19, 20, 21, 22, 23, 24] 69617315882342504562567840841288315750640570987166138686464120633385435005909810912804776464491386479444954425742356428750360449267437331138830941716010092468283243943582678247324426174464 (by kernel_rfl)]
        cases hv with
        | true =>
          repeat (first | ((with_reducible refine WDM_cons ?_; simp only [dw1]; try simp only [dw2, zrA, zrM, zrR, zrO, zrE]); simp only [core, zrA, zrS, zrM, zrL, zrE, reduceCtorEq, zrD, ziE, ziL, ziN, cored, hn, g0, g1, g2, g9, g10, g11, LP3, l3, LB3, lb3]) | simp only [core, zrA, zrS, zrM, zrL, zrE, reduceCtorEq, zrD, ziE, ziL, ziN, cored, hn, g0, g1, g2, g9, g10, g11, LP3, l3, LB3, lb3])
          refine hk _ _ ⟨rfl, ?_⟩
          simp only [core, zrA, zrS, zrM, zrL, zrE, reduceCtorEq, zrD, ziE, ziL, ziN, hn, g0, g1, g2, g9, g10, g11]
          rfl
        | false =>
          by_cases c1 : 0 < m.leaf
          · cases c2 : ((bucketG m a).kind == m.leaf) with
            | false =>
              repeat (first | ((with_reducible refine WDM_cons ?_; simp only [dw1]; try simp only [dw2, zrA, zrM, zrR, zrO, zrE]); simp only [core, zrA, zrS, zrM, zrL, zrE, reduceCtorEq, zrD, ziE, ziL, ziN, cored, hn, g0, g1, g2, g9, g10, g11, LP3, l3, LB3, lb3, c1, c2]) | simp only [core, zrA, zrS, zrM, zrL, zrE, reduceCtorEq, zrD, ziE, ziL, ziN, cored, hn, g0, g1, g2, g9, g10, g11, LP3, l3, LB3, lb3, c1, c2])
              refine hk _ _ ⟨rfl, ?_⟩
              simp only [core, zrA, zrS, zrM, zrL, zrE, reduceCtorEq, zrD, ziE, ziL, ziN, hn, g0, g1, g2, g9, g10, g11]
              unfold hitF
              rw [c2, Bool.and_false]
              rfl
            | true =>
              cases c3 : (a != at0) with
              | false =>
                repeat (first | ((with_reducible refine WDM_cons ?_; simp only [dw1]; try simp only [dw2, zrA, zrM, zrR, zrO, zrE]); simp only [core, zrA, zrS, zrM, zrL, zrE, reduceCtorEq, zrD, ziE, ziL, ziN, cored, hn, g0, g1, g2, g9, g10, g11, LP3, l3, LB3, lb3, c1, c2, c3]) | simp only [core, zrA, zrS, zrM, zrL, zrE, reduceCtorEq, zrD, ziE, ziL, ziN, cored, hn, g0, g1, g2, g9, g10, g11, LP3, l3, LB3, lb3, c1, c2, c3])
                refine hk _ _ ⟨rfl, ?_⟩
                simp only [core, zrA, zrS, zrM, zrL, zrE, reduceCtorEq, zrD, ziE, ziL, ziN, hn, g0, g1, g2, g9, g10, g11]
                unfold hitF
                rw [c3, Bool.and_false]
              | true =>
                repeat (first | ((with_reducible refine WDM_cons ?_; simp only [dw1]; try simp only [dw2, zrA, zrM, zrR, zrO, zrE]); simp only [core, zrA, zrS, zrM, zrL, zrE, reduceCtorEq, zrD, ziE, ziL, ziN, cored, hn, g0, g1, g2, g9, g10, g11, LP3, l3, LB3, lb3, c1, c2, c3]) | simp only [core, zrA, zrS, zrM, zrL, zrE, reduceCtorEq, zrD, ziE, ziL, ziN, cored, hn, g0, g1, g2, g9, g10, g11, LP3, l3, LB3, lb3, c1, c2, c3])
                refine hk _ _ ⟨rfl, ?_⟩
                simp only [core, zrA, zrS, zrM, zrL, zrE, reduceCtorEq, zrD, ziE, ziL, ziN, hn, g0, g1, g2, g9, g10, g11]
                unfold hitF
                rw [c2, c3, decide_eq_true c1]
                rfl
          · repeat (first | ((with_reducible refine WDM_cons ?_; simp only [dw1]; try simp only [dw2, zrA, zrM, zrR, zrO, zrE]); simp only [core, zrA, zrS, zrM, zrL, zrE, reduceCtorEq, zrD, ziE, ziL, ziN, cored, hn, g0, g1, g2, g9, g10, g11, LP3, l3, LB3, lb3, c1]) | simp only [core, zrA, zrS, zrM, zrL, zrE, reduceCtorEq, zrD, ziE, ziL, ziN, cored, hn, g0, g1, g2, g9, g10, g11, LP3, l3, LB3, lb3, c1])
            refine hk _ _ ⟨rfl, ?_⟩
            simp only [core, zrA, zrS, zrM, zrL, zrE, reduceCtorEq, zrD, ziE, ziL, ziN, hn, g0, g1, g2, g9, g10, g11]
            unfold hitF
            rw [decide_eq_false c1]
            rfl
      rintro t h' ⟨rfl, hn, g0, g1, g2, g9, g10, g11, g12, g52⟩
      have hq3 := hq.ext E3 (Nat.le_refl _)
      obtain ⟨ht, hht⟩ : ∃ ht, ht = hitF m at0 a hv := ⟨_, rfl⟩
      rw [← hht] at g52 hD
      by_cases hret : (ht && ds.contains a) = true
      · rw [if_pos hret] at hD
        have hT : tryC m at0 x r os ds = (0, 0, false) := by
          unfold tryC
          rw [← hD]
        simp only [Bool.and_eq_true] at hret
        obtain ⟨rfl, hca⟩ := hret
        simp only [core, zrA, zrS, zrM, zrL, zrE, reduceCtorEq, zrD, ziE, ziL, ziN, hn, g0, g1, g2, g9, g10, g11, g12, g52, LP3, l3]
        refine (contains_x a hq3 (by omega)).mono ?_
        rintro _ h4 ⟨rfl, rfl⟩
        simp only [core, zrA, zrS, zrM, zrL, zrE, reduceCtorEq, zrD, ziE, ziL, ziN, hn, g0, g1, g2, g9, g10, g11, g12, g52, hca]
        exact ⟨E3, by rw [hT]; rfl⟩
      rw [if_neg hret] at hD
      refine WB_cut (fun t h4 => h4 = h' ∧ t.n = 88 ∧ t.get 0 = .ptr p 0 ∧ t.get 1 = .lit (.int .i64 at0) ∧ t.get 2 = .lit (.int .i64 r) ∧ t.get 9 = .lit (.int .i64 a) ∧ t.get 10 = .lit (.int .i64 (if ht then a else dm)) ∧ t.get 11 = .lit (.bool (hv || ht)) ∧ t.get 12 = .ptr h2.n 0) (fun k' K' hk => ?_) ?_
      · cases ht with
        | false =>
          simp only [core, zrA, zrS, zrM, zrL, zrE, reduceCtorEq, zrD, ziE, ziL, ziN, hn, g0, g1, g2, g9, g10, g11, g12, g52]
          refine hk _ _ ⟨rfl, ?_⟩
          simp only [core, zrA, zrS, zrM, zrL, zrE, reduceCtorEq, zrD, ziE, ziL, ziN, hn, g0, g1, g2, g9, g10, g11, g12, g52, Bool.or_false]
        | true =>
          have hca : ds.contains a = false := by
            cases hcc : ds.contains a with
            | false => rfl
            | true => exact absurd (by rw [hcc]; rfl) hret
          simp only [core, zrA, zrS, zrM, zrL, zrE, reduceCtorEq, zrD, ziE, ziL, ziN, hn, g0, g1, g2, g9, g10, g11, g12, g52, LP3, l3]
          refine (contains_x a hq3 (by omega)).mono ?_
          rintro _ h4 ⟨rfl, rfl⟩
          simp only [core, zrA, zrS, zrM, zrL, zrE, reduceCtorEq, zrD, ziE, ziL, ziN, hn, g0, g1, g2, g9, g10, g11, g12, g52, hca]
          refine hk _ _ ⟨rfl, ?_⟩
          simp only [core, zrA, zrS, zrM, zrL, zrE, reduceCtorEq, zrD, ziE, ziL, ziN, hn, g0, g1, g2, g9, g10, g11, g12, g52, Bool.or_true]
      rintro t h4 ⟨rfl, hn, g0, g1, g2, g9, g10, g11, g12⟩
      simp only [core, zrA, zrS, zrM, zrL, zrE, reduceCtorEq, zrD, ziE, ziL, ziN, hn, g0, g1, g2, g9, g10, g11, g12]
      have hG : ∀ b, bucketF m a = some b → bucketG m a = b := fun b hb => by unfold bucketG; rw [hb]; rfl
      have hGl : (bucketG m a).items.length * 8 ≤ 140737488351232 := by
        cases hb : bucketF m a with
        | none => unfold bucketG; rw [hb]; decide
        | some b => rw [hG b hb]; exact (hbs b (List.mem_of_find?_eq_some hb)).1
      rw [WB_regionD [0, 1, 2, 3, 4, 5, 6, 7, 8, 9, 10, 11, 12, 13, 14] 26958506803583283964102506241650125051416736049585717655372279349248 (by kernel_rfl)]
      have z1 := c3.isSl
      have z2 := c3.lenD
      have z3 := c4.isSl
      repeat ((with_reducible refine WDM_cons ?_; simp only [dw1]; try simp only [dw2, zrA, zrM, zrR, zrO, zrE]); simp only [core, zrA, zrS, zrM, zrL, zrE, reduceCtorEq, zrD, ziE, ziL, ziN, cored, hn, g0, g1, g2, g9, g10, g11, g12, LP3, l3, LB3, lb3, z1, z2, z3])
      refine (choose_x x r c3 c4 (by omega)).mono ?_
      rintro _ h5 ⟨e5, rfl⟩
      have E5 := E3.step e5
      have B5 := (e5.2 _ lb3).trans B3
      have LB5 := ld_at (T := tabOf Try.prog NT0) B5
      have lb5 := at_lt B5
      have c5 := c3.ext e5 (Nat.le_refl _)
      cases hch : chooseF (bucketG m a).items (bucketG m a).weights x r with
      | none =>
        rw [hch] at hD
        have hT : tryC m at0 x r os ds = (0, 0, false) := by
          unfold tryC
          rw [← hD]
        repeat ((with_reducible refine WDM_cons ?_; simp only [dw1]; try simp only [dw2, zrA, zrM, zrR, zrO, zrE]); simp only [core, zrA, zrS, zrM, zrL, zrE, reduceCtorEq, zrD, ziE, ziL, ziN, cored, hn, g0, g1, g2, g9, g10, g11, g12, chooseV, pairV])
        exact ⟨E5, by rw [hT]; rfl⟩
      | some i =>
        obtain ⟨hi, -⟩ := chooseF_lt hch
        rw [hch] at hD
        obtain ⟨b, hb⟩ : ∃ b, bucketF m a = some b := by
          cases hb : bucketF m a with
          | none =>
            unfold bucketG at hi
            rw [hb] at hi
            exact absurd hi (Nat.not_lt_zero _)
          | some b => exact ⟨b, rfl⟩
        have hGb := hG b hb
        obtain ⟨u1, u2, u3, u4, u5, u6, u7, u8⟩ := good_bkt hg hb
        have hkb := kind_bkt (by omega : a < 0) hb
        obtain ⟨y1, y2⟩ := u7 i (by rw [← hGb]; exact hi)
        have hlda := c5.int (T := tabOf Try.prog NT0) (e := 3) (by kernel_rfl) (by kernel_rfl) hi
        repeat ((with_reducible refine WDM_cons ?_; simp only [dw1]; try simp only [dw2, zrA, zrM, zrR, zrO, zrE]); simp only [core, zrA, zrS, zrM, zrL, zrE, reduceCtorEq, zrD, ziE, ziL, ziN, cored, hn, g0, g1, g2, g9, g10, g11, g12, chooseV, pairV, LB5, lb5, z1, z2, hi, hlda])
        refine ih n _ _ ⟨_, _, _, E5, ?_, ?_, hD, ?_⟩ (by omega)
        · rw [hGb] at *; omega
        · rw [hGb] at *; omega
        · simp only [core, zrA, zrS, zrM, zrL, zrE, reduceCtorEq, zrD, ziE, ziL, ziN, hn, g0, g1, g2, g9, g10, g11, g12]
  · refine ⟨at0, 0, false, Ext.refl _ _, by omega, by omega, rfl, ?_⟩
    simp only [core, zrA, zrS, zrM, zrL, zrE, reduceCtorEq, zrD, ziE, ziL, ziN]
end Go.Proofs.Ytjkmmbfenhhjkaa.Ex
end

section

set_option linter.unusedSimpArgs false
set_option linter.unusedVariables false
set_option maxRecDepth 10000
set_option maxHeartbeats 4000000
namespace Go.Proofs.Ytjkmmbfenhhjkaa.Ex
open Go
/-- One try: the osd, and the bucket that it is to have alone. -/
def tryR (m : MapD) (x root : Int) (s : List Int × List Int) (r : Int) : Option (Int × Int) := match downF m m.leaf x r 4 root with
  | none => none
  | some d => if s.2.contains d then none else match (if d < 0 then downF m 0 x r 4 d else some d) with
    | none => none
    | some o => if !mayF m o x || s.1.contains o then none else some (o, d)
def firstR (m : MapD) (x root : Int) (s : List Int × List Int) (k : Nat) : Nat → Option (Int × Int)
  | 0 => none
  | t + 1 => match firstR m x root s k t with
    | some y => some y
    | none => tryR m x root s ((k + t : Nat) : Int)
def copyR (m : MapD) (x root : Int) (s : List Int × List Int) (k : Nat) : List Int × List Int := match firstR m x root s k 50 with
  | some (o, d) => (s.1 ++ [o], s.2 ++ [d])
  | none => s
def selN (m : MapD) (x root : Int) : Nat → List Int × List Int
  | 0 => ([], [])
  | k + 1 => copyR m x root (selN m x root k) k
def cntF (n : Int) : Nat := if 8 < n then 8 else n.toNat
def selectF (m : MapD) (x n : Int) : List Int := if goodF m then (match rootsR m with
  | [] => []
  | root :: _ => (selN m x root (cntF n)).1) else []
theorem selN_len (m : MapD) (x root : Int) : ∀ k, (selN m x root k).1.length ≤ k ∧ (selN m x root k).2.length ≤ k
  | 0 => ⟨Nat.le_refl 0, Nat.le_refl 0⟩
  | k + 1 => by
    obtain ⟨h1, h2⟩ := selN_len m x root k
    unfold selN copyR
    split
    · simp; omega
    · omega
theorem firstR_le {m : MapD} {x root : Int} {s : List Int × List Int} {k i : Nat} {y : Int × Int} (h : firstR m x root s k i = some y) : ∀ j, i ≤ j → firstR m x root s k j = some y
  | 0, hj => by
    have : i = 0 := by omega
    subst this
    exact h
  | j + 1, hj => by
    by_cases hi : i = j + 1
    · subst hi; exact h
    · rw [firstR, firstR_le h j (by omega)]
theorem firstR_zero {m : MapD} {x root : Int} {s : List Int × List Int} {k : Nat} : firstR m x root s k 0 = none := rfl
theorem firstR_next {m : MapD} {x root : Int} {s : List Int × List Int} {k t : Nat} (h : firstR m x root s k t = none) : firstR m x root s k (t + 1) = tryR m x root s ((k + t : Nat) : Int) := by
  rw [firstR, h]
attribute [irreducible] firstR
theorem down_i64 {F : Nat → Prop} {H : AH} {m : MapD} {vo vp vb : AV} {k x r : Int} (hm : MpAt F H m vo vp vb) : ∀ n a d, downF m k x r n a = some d → I64 d
  | 0, a, d, h => by cases h
  | n + 1, a, d, h => by
    unfold downF at h
    cases hb : bucketF m a with
    | none => rw [hb] at h; cases h
    | some b =>
    rw [hb] at h
    simp only at h
    cases hc : chooseF b.items b.weights x r with
    | none => rw [hc] at h; cases h
    | some i =>
    rw [hc] at h
    simp only at h
    split at h
    · cases h
      have hbm := List.mem_of_find?_eq_some hb
      obtain ⟨j, hj, hjb⟩ := List.mem_iff_getElem.1 hbm
      have hx : m.buckets[j]? = some b := by rw [List.getElem?_eq_getElem hj, hjb]
      obtain ⟨c, hc', _⟩ := hm.b.atE (T := tabOf Try.prog NT0) (Ext.refl _ _) (z := 4) rfl hx
      obtain ⟨va, vw, rfl, hi1, _⟩ := RBkt_is.1 hc'
      refine hi1.i64 i ?_
      have hq := chN_le b.items b.weights x r b.items.length
      unfold chooseF at hc
      split at hc
      · split at hc
        · have hc := Option.some.inj hc
          omega
        · cases hc
      · cases hc
    · exact down_i64 hm n _ d h
/-- Two own slices lie in two blocks. -/
def Disj (u v : AV) : Prop := ∀ b o n c o' n' c', u = .sl b o n c → v = .sl b o' n' c' → False
theorem Disj.nil_l {v : AV} : Disj (.lit (.slice none 0 0)) v := fun _ _ _ _ _ _ _ h _ => by cases h
theorem Disj.symm {u v : AV} (h : Disj u v) : Disj v u := fun b o n c o' n' c' h1 h2 => h b o' n' c' o n c h2 h1
theorem Disj.apart {u v : AV} (h : Disj u v) {b o n : Nat} {c : Cap} (hv : v = .sl b o n c) : Apart u b := fun o' n' c' hu => h b o' n' c' o n c hu hv
theorem OwnL.other {α : Type} {R : Rep α} {n0 : Nat} {h h' : AH} {u v s : AV} {e : TypeId} {xs : List α} (ho : OwnL R (fun _ => False) n0 h v e xs) (hd : Disj u v) (hk : ∀ b, b < h.n → Apart u b → h'.at b = h.at b ∧ Apart s b) : OwnL R (fun _ => False) n0 h' v e xs ∧ Disj s v := by
  have key : ∀ b off n cap, v = .sl b off n cap → b < h.n := fun b off n cap hv => by
    obtain ⟨L, h1, h2⟩ := ho
    rcases h1.2 with ⟨hh, _⟩ | ⟨p, hh, hp, hat⟩
    · rw [hh] at hv; cases hv
    · rw [hh] at hv; cases hv; exact at_lt hat
  refine ⟨ho.lift (fun b off n cap hv => (hk b (key _ _ _ _ hv) (hd.apart hv)).1) (fun b hb => hb.elim), fun b o n c o' n' c' hs hv => ?_⟩
  exact (hk b (key _ _ _ _ hv) (hd.apart hv)).2 _ _ _ hs
end Go.Proofs.Ytjkmmbfenhhjkaa.Ex
end

section

set_option linter.unusedSimpArgs false
set_option linter.unusedVariables false
namespace Go.Proofs.Ytjkmmbfenhhjkaa.Ex
open Go
theorem kind_neg {m : MapD} (hg : goodF m = true) {w : Int} (hw : w < 0) (h0 : 0 ≤ kindF m w) : ∃ b, bucketF m w = some b ∧ kindF m w = b.kind ∧ 1 ≤ b.kind := by
  cases hb : bucketF m w with
  | none =>
    unfold kindF at h0
    rw [if_neg (by omega), hb] at h0
    exact absurd h0 (by simp)
  | some b => exact ⟨b, rfl, kind_bkt hw hb, (good_bkt hg hb).2.2.1⟩
theorem kind_none {m : MapD} (hg : goodF m = true) {w : Int} (hw : w < 0) (h0 : kindF m w ≤ 0) : bucketF m w = none := by
  cases hb : bucketF m w with
  | none => rfl
  | some b =>
    have := kind_bkt hw hb
    have := (good_bkt hg hb).2.2.1
    omega
theorem choose_none {m : MapD} {a x r : Int} (hb : bucketF m a = none) : chooseF (bucketG m a).items (bucketG m a).weights x r = none := by
  have hG : bucketG m a = bkt0 := by unfold bucketG; rw [hb]; rfl
  rw [hG]
  cases hc : chooseF bkt0.items bkt0.weights x r with
  | none => rfl
  | some i => exact absurd (chooseF_lt hc).1 (Nat.not_lt_zero _)
theorem item_kind {m : MapD} (hg : goodF m = true) {a x r : Int} {b : BktD} {i : Nat} (hb : bucketF m a = some b) (hc : chooseF b.items b.weights x r = some i) : 0 ≤ kindF m (b.items.getD i 0) ∧ kindF m (b.items.getD i 0) < b.kind :=
  (good_bkt hg hb).2.2.2.2.2.2.1 i (chooseF_lt hc).1
theorem hit_true {m : MapD} {at0 a : Int} : hitF m at0 a true = false := by unfold hitF; simp
theorem down_none {m : MapD} {k x r a : Int} (hb : bucketF m a = none) : ∀ (n : Nat), downF m k x r n a = none
  | 0 => rfl
  | n + 1 => by rw [downF, hb]
theorem down_fuel {m : MapD} (hg : goodF m = true) {k x r : Int} : ∀ (n n' : Nat) (a : Int), a < 0 → kindF m a ≤ (n : Int) → kindF m a ≤ (n' : Int) → downF m k x r n a = downF m k x r n' a
  | 0, n', a, ha, h1, _ => by rw [down_none (kind_none hg ha (by simpa using h1)), down_none (kind_none hg ha (by simpa using h1))]
  | n + 1, 0, a, ha, _, h2 => by rw [down_none (kind_none hg ha (by simpa using h2)), down_none (kind_none hg ha (by simpa using h2))]
  | n + 1, n' + 1, a, ha, h1, h2 => by
    cases hb : bucketF m a with
    | none => rw [down_none hb, down_none hb]
    | some b =>
      rw [downF, downF, hb]
      simp only
      cases hc : chooseF b.items b.weights x r with
      | none => rfl
      | some i =>
        simp only
        obtain ⟨q1, q2⟩ := item_kind hg hb hc
        have hk := kind_bkt ha hb
        split
        · rfl
        · rename_i hno
          exact down_fuel hg n n' _ (by omega) (by omega) (by omega)
theorem way_true {m : MapD} (hg : goodF m = true) {at0 x r : Int} {ds : List Int} : ∀ (n : Nat) (a dm : Int), a < 0 → kindF m a ≤ (n : Int) → wayF m at0 x r ds (n + 1) a dm true = (downF m 0 x r n a).map (fun o => (o, dm))
  | 0, a, dm, ha, h1 => by
    have hb := kind_none hg ha (by simpa using h1)
    rw [down_none hb, wayF, if_neg (by omega), hit_true, choose_none hb]
    rfl
  | n + 1, a, dm, ha, h1 => by
    rw [wayF, if_neg (by omega), hit_true]
    cases hb : bucketF m a with
    | none => rw [choose_none hb, down_none hb]; rfl
    | some b =>
      have hG : bucketG m a = b := by unfold bucketG; rw [hb]; rfl
      rw [hG, downF, hb]
      simp only [Bool.false_and, Bool.false_eq_true, if_false, Bool.or_false]
      cases hc : chooseF b.items b.weights x r with
      | none => rfl
      | some i =>
        simp only
        obtain ⟨q1, q2⟩ := item_kind hg hb hc
        have hk := kind_bkt ha hb
        by_cases h0 : 0 ≤ b.items.getD i 0
        · rw [wayF, if_pos h0, if_pos (show 0 ≤ b.items.getD i 0 ∨ kindF m (b.items.getD i 0) = 0 from .inl h0)]
          rfl
        · obtain ⟨b', hb', hk', h1'⟩ := kind_neg hg (by omega) q1
          rw [if_neg (by omega)]
          exact way_true hg n _ dm (by omega) (by omega)
theorem way_false {m : MapD} (hg : goodF m = true) {at0 x r : Int} {ds : List Int} (h3 : kindF m at0 ≤ 3) : ∀ (n : Nat) (a dm : Int), a < 0 → kindF m a ≤ (n : Int) → kindF m a ≤ kindF m at0 → hitF m at0 a false = false →
    wayF m at0 x r ds (n + 1) a dm false = match downF m m.leaf x r n a with
      | none => none
      | some d => if 0 ≤ d then some (d, d) else if ds.contains d then none else (downF m 0 x r 4 d).map (fun o => (o, d))
  | 0, a, dm, ha, h1, _, hh => by
    have hb := kind_none hg ha (by simpa using h1)
    rw [down_none hb, wayF, if_neg (by omega), hh, choose_none hb]
    rfl
  | n + 1, a, dm, ha, h1, h2, hh => by
    rw [wayF, if_neg (by omega), hh]
    cases hb : bucketF m a with
    | none => rw [choose_none hb, down_none hb]; rfl
    | some b =>
      have hG : bucketG m a = b := by unfold bucketG; rw [hb]; rfl
      rw [hG, downF, hb]
      simp only [Bool.false_and, Bool.false_eq_true, if_false, Bool.or_false]
      cases hc : chooseF b.items b.weights x r with
      | none => rfl
      | some i =>
        simp only
        obtain ⟨q1, q2⟩ := item_kind hg hb hc
        have hk := kind_bkt ha hb
        obtain ⟨w, hw⟩ : ∃ w, w = b.items.getD i 0 := ⟨_, rfl⟩
        rw [← hw] at q1 q2 ⊢
        by_cases h0 : 0 ≤ w
        · rw [wayF, if_pos h0, if_pos (show 0 ≤ w ∨ kindF m w = m.leaf from .inl h0)]
          simp only [if_pos h0]
          rfl
        · have hw0 : w < 0 := by omega
          obtain ⟨b', hb', hk', h1'⟩ := kind_neg hg hw0 q1
          have hG' : bucketG m w = b' := by unfold bucketG; rw [hb']; rfl
          by_cases hl : kindF m w = m.leaf
          · have hhit : hitF m at0 w false = true := by
              unfold hitF
              rw [hG']
              have c1 : 0 < m.leaf := by omega
              have c2 : b'.kind = m.leaf := by omega
              have c3 : w ≠ at0 := fun hq => by subst hq; omega
              simp [c1, c2, c3]
            rw [if_pos (.inr hl), wayF, if_neg h0, hhit]
            simp only [Bool.true_and, Bool.or_true, if_true, if_neg h0]
            cases hds : ds.contains w with
            | true => simp only [if_true]
            | false =>
              simp only [Bool.false_eq_true, if_false]
              have ht := way_true hg (at0 := at0) (x := x) (r := r) (ds := ds) n w w hw0 (by omega)
              rw [down_fuel hg 4 n w hw0 (by omega) (by omega), ← ht, wayF, if_neg h0, hit_true]
              simp only [Bool.false_and, Bool.false_eq_true, if_false, Bool.or_false]
          · have hhit : hitF m at0 w false = false := by
              unfold hitF
              rw [hG']
              have c2 : ¬ b'.kind = m.leaf := by omega
              simp [c2]
            rw [if_neg (by omega)]
            exact way_false hg h3 n w dm hw0 (by omega) (by omega) hhit
theorem try_same {m : MapD} (hg : goodF m = true) {at0 x r : Int} {os ds : List Int} (h3 : kindF m at0 ≤ 3) (ha : at0 < 0) (hi : ∀ d ∈ ds, 0 ≤ d → d ∈ os) :
    tryR m x at0 (os, ds) r = if (tryC m at0 x r os ds).2.2 then some ((tryC m at0 x r os ds).1, (tryC m at0 x r os ds).2.1) else none := by
  have hh : hitF m at0 at0 false = false := by unfold hitF; simp
  have hw := way_false hg (x := x) (r := r) (ds := ds) h3 3 at0 0 ha h3 (Int.le_refl _) hh
  unfold tryC tryR
  rw [hw]
  by_cases hk : bucketF m at0 = none
  · rw [down_none hk, down_none hk]; rfl
  rw [down_fuel hg 4 3 at0 ha (by omega) h3]
  cases hd : downF m m.leaf x r 3 at0 with
  | none => rfl
  | some d =>
    simp only
    by_cases hd0 : 0 ≤ d
    · simp only [if_pos hd0]
      cases hc : ds.contains d with
      | true =>
        have : os.contains d = true := List.contains_iff_mem.2 (hi d (List.contains_iff_mem.1 hc) hd0)
        simp only [if_true, this, Bool.not_true, Bool.and_false, Bool.false_eq_true, if_false]
      | false =>
        rw [if_neg (show ¬ d < 0 by omega)]
        simp only [Bool.false_eq_true, if_false]
        cases mayF m d x <;> cases os.contains d <;> rfl
    · simp only [if_neg hd0]
      cases hc : ds.contains d with
      | true => rfl
      | false =>
        rw [if_pos (show d < 0 by omega)]
        simp only [Bool.false_eq_true, if_false]
        cases downF m 0 x r 4 d with
        | none => rfl
        | some o =>
          simp only [Option.map_some]
          cases mayF m o x <;> cases os.contains o <;> rfl
theorem tryR_pos {m : MapD} {x root r o d : Int} {s : List Int × List Int} (h : tryR m x root s r = some (o, d)) (hd : 0 ≤ d) : o = d := by
  unfold tryR at h
  cases h1 : downF m m.leaf x r 4 root with
  | none => rw [h1] at h; cases h
  | some d' =>
    rw [h1] at h
    simp only at h
    split at h
    · cases h
    · split at h
      · cases h
      · rename_i o' ho
        split at h
        · cases h
        · cases h
          rw [if_neg (by omega)] at ho
          exact (Option.some.inj ho).symm
theorem tryR_i64 {F : Nat → Prop} {H : AH} {m : MapD} {vo vp vb : AV} (hm : MpAt F H m vo vp vb) {x root r o d : Int} {s : List Int × List Int} (h : tryR m x root s r = some (o, d)) : I64 o ∧ I64 d := by
  unfold tryR at h
  cases h1 : downF m m.leaf x r 4 root with
  | none => rw [h1] at h; cases h
  | some d' =>
    rw [h1] at h
    simp only at h
    split at h
    · cases h
    · split at h
      · cases h
      · rename_i o' ho
        split at h
        · cases h
        · cases h
          have hd := down_i64 hm _ _ _ h1
          refine ⟨?_, hd⟩
          split at ho
          · exact down_i64 hm _ _ _ ho
          · cases ho; exact hd
theorem firstR_try {m : MapD} {x root : Int} {s : List Int × List Int} {k : Nat} {y : Int × Int} : ∀ n, firstR m x root s k n = some y → ∃ r, tryR m x root s r = some y
  | 0, h => by rw [firstR_zero] at h; cases h
  | n + 1, h => by
    cases hn : firstR m x root s k n with
    | some z => rw [firstR_le hn (n + 1) (by omega)] at h; cases h; exact firstR_try n hn
    | none => rw [firstR_next hn] at h; exact ⟨_, h⟩
theorem copyR_inv {m : MapD} {x root : Int} {s : List Int × List Int} {k : Nat} (hi : ∀ d ∈ s.2, 0 ≤ d → d ∈ s.1) : ∀ d ∈ (copyR m x root s k).2, 0 ≤ d → d ∈ (copyR m x root s k).1 := by
  unfold copyR
  cases h : firstR m x root s k 50 with
  | none => exact hi
  | some y =>
    obtain ⟨o, d⟩ := y
    obtain ⟨r, hr⟩ := firstR_try _ h
    intro d' hd' h0
    simp only [List.mem_append, List.mem_singleton] at hd' ⊢
    rcases hd' with hd' | rfl
    · exact .inl (hi _ hd' h0)
    · exact .inr (tryR_pos hr h0).symm
theorem selN_inv {m : MapD} {x root : Int} : ∀ k, ∀ d ∈ (selN m x root k).2, 0 ≤ d → d ∈ (selN m x root k).1
  | 0 => fun d hd => by cases hd
  | k + 1 => by rw [selN]; exact copyR_inv (selN_inv k)
theorem tryR_may {m : MapD} {x root r o d : Int} {s : List Int × List Int} (h : tryR m x root s r = some (o, d)) : mayF m o x = true ∧ s.1.contains o = false := by
  unfold tryR at h
  cases h1 : downF m m.leaf x r 4 root with
  | none => rw [h1] at h; cases h
  | some d' =>
    rw [h1] at h
    simp only at h
    split at h
    · cases h
    · split at h
      · cases h
      · rename_i o' ho
        split at h
        · cases h
        · rename_i hn
          cases h
          cases hm : mayF m o x with
          | false => rw [hm] at hn; exact absurd rfl hn
          | true =>
            cases hc : s.1.contains o with
            | true => rw [hm, hc] at hn; exact absurd rfl hn
            | false => exact ⟨rfl, rfl⟩
theorem copyR_may {m : MapD} {x root : Int} {s : List Int × List Int} {k : Nat} (hi : (∀ o ∈ s.1, mayF m o x = true) ∧ s.1.Nodup) : (∀ o ∈ (copyR m x root s k).1, mayF m o x = true) ∧ (copyR m x root s k).1.Nodup := by
  unfold copyR
  cases h : firstR m x root s k 50 with
  | none => exact hi
  | some y =>
    obtain ⟨o, d⟩ := y
    obtain ⟨r, hr⟩ := firstR_try _ h
    obtain ⟨h1, h2⟩ := tryR_may hr
    refine ⟨fun o' ho' => ?_, ?_⟩
    · simp only [List.mem_append, List.mem_singleton] at ho'
      rcases ho' with ho' | rfl
      · exact hi.1 _ ho'
      · exact h1
    · rw [List.nodup_append]
      refine ⟨hi.2, by simp, fun a ha b hb => ?_⟩
      simp only [List.mem_singleton] at hb
      subst hb
      intro hab
      subst hab
      rw [List.contains_iff_mem.2 ha] at h2
      cases h2
theorem selN_may {m : MapD} {x root : Int} : ∀ k, (∀ o ∈ (selN m x root k).1, mayF m o x = true) ∧ (selN m x root k).1.Nodup
  | 0 => ⟨fun o ho => (by cases ho), List.nodup_nil⟩
  | k + 1 => by rw [selN]; exact copyR_may (selN_may k)
theorem selectF_may {m : MapD} {x n : Int} : (∀ o ∈ selectF m x n, mayF m o x = true) ∧ (selectF m x n).Nodup := by
  unfold selectF
  split
  · split
    · exact ⟨fun o ho => (by cases ho), List.nodup_nil⟩
    · exact selN_may _
  · exact ⟨fun o ho => (by cases ho), List.nodup_nil⟩
theorem may_able {m : MapD} {x o : Int} (h : mayF m o x = true) : ableF m o = true := by
  unfold mayF at h
  unfold ableF
  by_cases h0 : 0 ≤ o
  · rw [if_pos h0] at h ⊢
    cases hy : m.osds[o.toNat]? with
    | none => rw [hy] at h; cases h
    | some y =>
      rw [hy] at h
      simp only [mayO, ableO, Bool.and_eq_true] at h ⊢
      exact h.1
  · rw [if_neg h0] at h; cases h
theorem selectF_able {m : MapD} {x n : Int} : ∀ o ∈ selectF m x n, ableF m o = true := fun o ho => may_able (selectF_may.1 o ho)
theorem cnt_le (n : Int) : cntF n ≤ 8 := by unfold cntF; split <;> omega
theorem selectF_len {m : MapD} {x n : Int} : (selectF m x n).length ≤ 8 := by
  unfold selectF
  split
  · split
    · exact Nat.zero_le _
    · exact Nat.le_trans (selN_len _ _ _ _).1 (cnt_le n)
  · exact Nat.zero_le _
end Go.Proofs.Ytjkmmbfenhhjkaa.Ex
end

section

set_option linter.unusedSimpArgs false
set_option linter.unusedVariables false
set_option maxRecDepth 10000
set_option maxHeartbeats 4000000
namespace Go.Proofs.Ytjkmmbfenhhjkaa.Ex
open Go
theorem OwnL.low {α : Type} {R : Rep α} {n0 : Nat} {h : AH} {v : AV} {e : TypeId} {xs : List α} (ho : OwnL R (fun _ => False) n0 h v e xs) {b off n : Nat} {cap : Cap} (hv : v = .sl b off n cap) : n0 ≤ b ∧ b < h.n := by
  obtain ⟨L, h1, h2⟩ := ho
  rcases h1.2 with ⟨hh, _⟩ | ⟨p, hh, hp, hat⟩
  · rw [hh] at hv; cases hv
  · rw [hh] at hv; cases hv; exact ⟨hp, at_lt hat⟩
theorem OwnL.put {α : Type} {R : Rep α} {n0 : Nat} {h : AH} {v : AV} {e : TypeId} {xs : List α} (ho : OwnL R (fun _ => False) n0 h v e xs) {p : Nat} (hp : p < n0) (x : AB) : OwnL R (fun _ => False) n0 (h.put p x) v e xs :=
  ho.lift (fun b off n cap hv => at_put_ne x (by have := ho.low hv; omega)) (fun b hb => hb.elim)
theorem copy_x {F : Nat → Prop} {H : AH} {m : MapD} {vo vp vb vs vq : AV} {x root : Int} {os ds : List Int} {p : Nat} (k : Nat) (hm : MpAt F H m vo vp vb) (hok : OkM m) (hlo : Sm 40 m.osds) (hg : goodF m = true) (hr : root < 0) (h3 : kindF m root ≤ 3)
    (hp : H.at p = some (.cells (chC m vo vp vb x vs vq) 164)) (hs : OwnL RInt (fun _ => False) (p + 1) H vs 3 os) (hq : OwnL RInt (fun _ => False) (p + 1) H vq 3 ds) (hdj : Disj vs vq) (hsl : os.length ≤ k) (hql : ds.length ≤ k) (hk : k ≤ 8) (hi : ∀ d ∈ ds, 0 ≤ d → d ∈ os) :
    WC Try.prog (tabOf Try.prog NT0) S0 60 [.ptr p 0, .lit (.int .i64 root), .lit (.int .i64 k)] H fun v h' => v = .tup [] ∧ Ext p H h' ∧ ∃ vs' vq', h'.at p = some (.cells (chC m vo vp vb x vs' vq') 164) ∧
      OwnL RInt (fun _ => False) (p + 1) h' vs' 3 (copyR m x root (os, ds) k).1 ∧ OwnL RInt (fun _ => False) (p + 1) h' vq' 3 (copyR m x root (os, ds) k).2 ∧ Disj vs' vq' := by
  refine WC_fn Try.func60 rfl rfl ?_
  have lp := at_lt hp
  have hvs := hs.toSl (F := fun _ => True) (fun _ _ => trivial) (fun _ _ => trivial)
  have hvq := hq.toSl (F := fun _ => True) (fun _ _ => trivial) (fun _ _ => trivial)
  simp only [core, zrA, zrS, zrM, zrL, zrE, reduceCtorEq, zrD, ziE, ziL, ziN, Try.ntmps60]
  refine WB_for 50 (fun i t h => Ext H.n H h ∧ firstR m x root (os, ds) k i = none ∧ t.n = 45 ∧ t.get 0 = .ptr p 0 ∧ t.get 1 = .lit (.int .i64 root) ∧ t.get 2 = .lit (.int .i64 k) ∧ t.get 10 = .lit (.int .i64 i)) ?_ ?_ _ _ ?_
  · rintro i t h hi50 hc ⟨he, hf, hn, g0, g1, g2, g10⟩ ih
    have hc : ((i : Int) < 50) = True := by simp only [eq_iff_iff, iff_true]; omega
    have hws := wrap_succ hi50 (by omega)
    have hwk : IntKind.i64.wrap ((k : Int) + (i : Int)) = ((k + i : Nat) : Int) := (wrap_in (by omega) (by omega)).trans (by omega)
    have P1 := (he.2 _ lp).trans hp
    have hf1 : firstR m x root (os, ds) k (i + 1) = tryR m x root (os, ds) ((k + i : Nat) : Int) := firstR_next hf
    have hT := try_same hg (x := x) (r := ((k + i : Nat) : Int)) (os := os) (ds := ds) h3 hr hi
    simp only [core, zrA, zrS, zrM, zrL, zrE, reduceCtorEq, zrD, ziE, ziL, ziN, hn, g0, g1, g2, g10, hc, hwk]
    refine (tryC_x root _ (hm.ext he (Nat.le_refl _)) hok hlo hg P1 (hvs.ext he (Nat.le_refl _)) (hvq.ext he (Nat.le_refl _)) (by omega) (by omega) h3).mono ?_
    rintro _ h2 ⟨e2, rfl⟩
    have E2 := he.step e2
    obtain ⟨⟨o, d, b⟩, hy⟩ : ∃ y, y = tryC m root x ((k + i : Nat) : Int) os ds := ⟨_, rfl⟩
    rw [← hy] at hT ⊢
    cases b with
    | false =>
      simp only [core, zrA, zrS, zrM, zrL, zrE, reduceCtorEq, zrD, ziE, ziL, ziN, hn, g0, g1, g2, g10, tryV, hws]
      refine ih _ _ ⟨E2, by rw [hf1, hT]; rfl, ?_⟩
      simp only [core, zrA, zrS, zrM, zrL, zrE, reduceCtorEq, zrD, ziE, ziL, ziN, hn, g0, g1, g2, g10]
    | true =>
    have hT : tryR m x root (os, ds) ((k + i : Nat) : Int) = some (o, d) := hT
    rw [hT] at hf1
    have hS : copyR m x root (os, ds) k = (os ++ [o], ds ++ [d]) := by
      unfold copyR
      rw [firstR_le hf1 50 (by omega)]
    obtain ⟨I1, I2⟩ := tryR_i64 hm hT
    have P2 := (E2.2 _ lp).trans hp
    unfold chC at P2
    have LP2 := ld_at (T := tabOf Try.prog NT0) P2
    have l2 := at_lt P2
    have hs2 := hs.ext E2 (Nat.le_refl _)
    have hq2 := hq.ext E2 (Nat.le_refl _)
    have q2 := e2.1
    have q3 := he.1
    simp only [core, zrA, zrS, zrM, zrL, zrE, reduceCtorEq, zrD, ziE, ziL, ziN, hn, g0, g1, g2, g10, tryV, LP2, l2]
    obtain ⟨h3', hh3⟩ : ∃ h3', h3' = h2.push (.cells [.lit (.int .i64 o)] 3) := ⟨_, rfl⟩
    have e3 : Ext h2.n h2 h3' := hh3 ▸ (Ext.refl _ _).push _ (Nat.le_refl _)
    have A3 : h3'.at h2.n = some (.cells [.lit (.int .i64 o)] 3) := hh3 ▸ at_push_n h2 _
    have q4 := e3.1
    rw [← hh3]
    refine WOp_app ((hs2.ext e3 (Nat.le_refl _)).snoc (by kernel_rfl) (by kernel_rfl) (by kernel_rfl) (zv := .lit (.int .i64 0)) (by kernel_rfl) (by' := 8) (by kernel_rfl) rfl (by decide) (by decide) A3 (y := o) ⟨rfl, I1⟩ (by omega) (by omega) (by omega)) ?_
    rintro s8 h4 ⟨ho4, e4, k4⟩
    have P4 := ((e4.2 _ (by omega)).trans (e3.2 _ l2)).trans P2
    have LP4 := ld_at (T := tabOf Try.prog NT0) P4
    have l4 := at_lt P4
    have t8 := ho4.one
    obtain ⟨hq4, hd4⟩ := (hq2.ext e3 (Nat.le_refl _)).other hdj k4
    simp only [core, zrA, zrS, zrM, zrL, zrE, reduceCtorEq, zrD, ziE, ziL, ziN, hn, g0, g1, g2, g10, LP4, l4, P4, t8]
    obtain ⟨h5, hh5⟩ : ∃ h5, h5 = h4.put p (.cells [.lit (.int .i64 m.epoch), vo, vp, vb, .lit (.int .i64 m.leaf), .lit (.int .u32 x), s8, vq] 164) := ⟨_, rfl⟩
    have e5 : Ext p h4 h5 := hh5 ▸ (Ext.refl _ _).put _ (Nat.le_refl _)
    have P5 : h5.at p = some (.cells [.lit (.int .i64 m.epoch), vo, vp, vb, .lit (.int .i64 m.leaf), .lit (.int .u32 x), s8, vq] 164) := hh5 ▸ at_put_same _ l4
    have ho5 : OwnL RInt (fun _ => False) (p + 1) h5 s8 3 (os ++ [o]) := hh5 ▸ ho4.put (by omega) _
    have hq5 : OwnL RInt (fun _ => False) (p + 1) h5 vq 3 ds := hh5 ▸ hq4.put (by omega) _
    have n5 : h5.n = h4.n := by rw [hh5, n_put]
    rw [← hh5]
    obtain ⟨h6, hh6⟩ : ∃ h6, h6 = h5.push (.cells [.lit (.int .i64 d)] 3) := ⟨_, rfl⟩
    have e6 : Ext h5.n h5 h6 := hh6 ▸ (Ext.refl _ _).push _ (Nat.le_refl _)
    have A6 : h6.at h4.n = some (.cells [.lit (.int .i64 d)] 3) := by rw [← n5, hh6]; exact at_push_n h5 _
    have q5 := e6.1
    rw [← hh6]
    refine WOp_app ((hq5.ext e6 (Nat.le_refl _)).snoc (by kernel_rfl) (by kernel_rfl) (by kernel_rfl) (zv := .lit (.int .i64 0)) (by kernel_rfl) (by' := 8) (by kernel_rfl) rfl (by decide) (by decide) A6 (y := d) ⟨rfl, I2⟩ (by omega) (by omega) (by omega)) ?_
    rintro s9 h7 ⟨ho7, e7, k7⟩
    have P7 := ((e7.2 _ (by omega)).trans (e6.2 _ (by omega))).trans P5
    have LP7 := ld_at (T := tabOf Try.prog NT0) P7
    have l7 := at_lt P7
    have t9 := ho7.one
    obtain ⟨ho7', hd7⟩ := (ho5.ext e6 (Nat.le_refl _)).other hd4.symm k7
    simp only [core, zrA, zrS, zrM, zrL, zrE, reduceCtorEq, zrD, ziE, ziL, ziN, hn, g0, g1, g2, g10, LP7, l7, P7, t9]
    have q7 := e4.1
    have q8 := e7.1
    have EE : Ext p H (h7.put p (.cells [.lit (.int .i64 m.epoch), vo, vp, vb, .lit (.int .i64 m.leaf), .lit (.int .u32 x), s8, s9] 164)) := by
      exact ((((((E2.mono (by omega)).trans (e3.mono (by omega))).trans (e4.mono (by omega))).trans e5).trans (e6.mono (by omega))).trans (e7.mono (by omega))).put _ (Nat.le_refl _)
    refine ⟨EE, s8, s9, rfl, ?_, ?_, hd7.symm⟩
    · rw [hS]; exact ho7'.put (by omega) _
    · rw [hS]; exact ho7.put (by omega) _
  · rintro t h hc ⟨he, hf, hn, g0, g1, g2, g10⟩
    have hc : ((50 : Int) < 50) = False := by decide
    have hc' : (((50 : Nat) : Int) < 50) = False := by decide
    have hS : copyR m x root (os, ds) k = (os, ds) := by
      unfold copyR
      rw [hf]
    simp only [core, zrA, zrS, zrM, zrL, zrE, reduceCtorEq, zrD, ziE, ziL, ziN, hn, g0, g1, g2, g10, hc, hc']
    refine ⟨by simp, ⟨he.1, fun b hb => he.2 b (by omega)⟩, vs, vq, (he.2 _ lp).trans hp, ?_, ?_, hdj⟩
    · rw [hS]; exact hs.ext he (Nat.le_refl _)
    · rw [hS]; exact hq.ext he (Nat.le_refl _)
  · simp only [core, zrA, zrS, zrM, zrL, zrE, reduceCtorEq, zrD, ziE, ziL, ziN]
    refine ⟨Ext.refl _ _, firstR_zero, ?_⟩
    (repeat' apply And.intro) <;> first | rfl | trivial
end Go.Proofs.Ytjkmmbfenhhjkaa.Ex
end

section

set_option linter.unusedSimpArgs false
set_option linter.unusedVariables false
set_option maxRecDepth 10000
set_option maxHeartbeats 4000000
namespace Go.Proofs.Ytjkmmbfenhhjkaa.Ex
open Go
theorem root_good {m : MapD} (hg : goodF m = true) {root : Int} (hr : root ∈ rootsR m) : root < 0 ∧ kindF m root ≤ 3 := by
  obtain ⟨h1, _, h3⟩ := roots_walk hg m.buckets.length (Nat.le_refl _)
  obtain ⟨c, hc, rfl⟩ := h3 root (h1.subset hr)
  have hc := List.mem_of_mem_take hc
  cases hb : bucketF m c.id with
  | none =>
    unfold bucketF at hb
    exact absurd (List.find?_eq_none.1 hb c hc) (by simp)
  | some b =>
    obtain ⟨g1, g2, g3, g4, g5, -⟩ := good_bkt hg hb
    refine ⟨by omega, ?_⟩
    rw [kind_bkt (by omega) hb]
    exact g4
theorem cnt_eq (n : Int) : (if 8 < (if n < 0 then 0 else n) then 8 else (if n < 0 then 0 else n)) = ((cntF n : Nat) : Int) := by
  unfold cntF
  repeat' split
  all_goals omega
theorem selectC_x {F : Nat → Prop} {H : AH} {m : MapD} {vo vp vb : AV} (x n : Int) (hm : MpAt F H m vo vp vb) (hok : OkM m) (hlo : Sm 40 m.osds) :
    WC Try.prog (tabOf Try.prog NT0) S0 51 [mpV m vo vp vb, .lit (.int .u32 x), .lit (.int .i64 n)] H fun v h' => Ext H.n H h' ∧ IsSl RInt (fun b => H.n ≤ b) h' v (selectF m x n) := by
  refine WC_fn Try.func51 rfl rfl ?_
  have o1 := hm.o.one
  have o2 := hm.p.one
  have o3 := hm.b.one
  have EP : ∀ x, Ext H.n H (H.push x) := fun x => (Ext.refl _ _).push _ (Nat.le_refl _)
  simp only [core, zrA, zrS, zrM, zrL, zrE, reduceCtorEq, zrD, ziE, ziL, ziN, Try.ntmps51, mpV, o1, o2, o3]
  obtain ⟨h1, hh1⟩ : ∃ h1, h1 = H.push (.cells [.lit (.int .i64 m.epoch), vo, vp, vb, .lit (.int .i64 m.leaf)] 72) := ⟨_, rfl⟩
  have E1 : Ext H.n H h1 := hh1 ▸ EP _
  have A1 : h1.at H.n = some (.cells [.lit (.int .i64 m.epoch), vo, vp, vb, .lit (.int .i64 m.leaf)] 72) := hh1 ▸ at_push_n _ _
  have l1 := at_lt A1
  rw [← hh1]
  clear hh1
  refine (goodC_x (hm.ext E1 (Nat.le_refl _)) hok).mono ?_
  rintro _ h2 ⟨e2, rfl⟩
  have E2 := E1.step e2
  have A2 := (e2.2 _ l1).trans A1
  have l2 := at_lt A2
  have LA2 := ld_at (T := tabOf Try.prog NT0) A2
  cases hg : goodF m with
  | false =>
    simp only [core, zrA, zrS, zrM, zrL, zrE, reduceCtorEq, zrD, ziE, ziL, ziN]
    refine ⟨E2, ?_⟩
    unfold selectF
    rw [hg]
    exact IsSl.nil
  | true =>
  simp only [core, zrA, zrS, zrM, zrL, zrE, reduceCtorEq, zrD, ziE, ziL, ziN, LA2, l2]
  refine (rootsG_x (hm.ext E2 (Nat.le_refl _)) hok hg).mono ?_
  rintro vr h3 ⟨e3, hr3⟩
  have E3 := E2.step e3
  have A3 := (e3.2 _ l2).trans A2
  have l3 := at_lt A3
  have LA3 := ld_at (T := tabOf Try.prog NT0) A3
  have r1 := hr3.isSl
  have r2 := hr3.lenD
  simp only [corem, WB_cond_s, put, ldL, WB_label, List.nil_append, List.drop_zero, List.take_zero, zrA, zrS, zrM, zrL, zrE, reduceCtorEq, zrD, ziE, ziL, ziN, r1, r2, -WB_cond_s]
  rw [WB_cond_s]
  simp only [corem, WB_cond_s, put, ldL, WB_label, List.nil_append, List.drop_zero, List.take_zero, zrA, zrS, zrM, zrL, zrE, reduceCtorEq, zrD, ziE, ziL, ziN, -WB_cond_s]
  cases hrt : rootsR m with
  | nil =>
    refine ⟨fun _ => ⟨E3, ?_⟩, fun hq => absurd hq (by decide)⟩
    unfold selectF
    rw [hg, hrt]
    exact IsSl.nil
  | cons root rest =>
  obtain ⟨hr0, hk3⟩ := root_good hg (root := root) (by rw [hrt]; simp)
  have hrl : (0 : Nat) < (rootsR m).length := by rw [hrt]; simp
  have hrg : (rootsR m).getD 0 0 = root := by rw [hrt]; rfl
  have hsel : selectF m x n = (selN m x root (cntF n)).1 := by unfold selectF; rw [hg, hrt]; rfl
  rw [← hrt]
  refine ⟨fun hq => absurd (eq_of_beq hq) (by omega), fun hq0 => ?_⟩
  simp only [core, zrA, zrS, zrM, zrL, zrE, reduceCtorEq, zrD, ziE, ziL, ziN, LA3, l3, o1, o2, o3]
  obtain ⟨h4, hh4⟩ : ∃ h4, h4 = h3.push (.cells [.lit (.int .i64 m.epoch), vo, vp, vb, .lit (.int .i64 m.leaf), .lit (.int .u32 x), .lit (.slice none 0 0), .lit (.slice none 0 0)] 164) := ⟨_, rfl⟩
  have P4 : h4.at h3.n = some (.cells (chC m vo vp vb x (.lit (.slice none 0 0)) (.lit (.slice none 0 0))) 164) := hh4 ▸ at_push_n _ _
  have e4 : Ext h3.n h3 h4 := hh4 ▸ (Ext.refl _ _).push _ (Nat.le_refl _)
  rw [← hh4]
  clear hh4
  simp only [cnt_eq]
  have hc8 := cnt_le n
  refine WB_for (cntF n) (fun k t h => ∃ vs vq, h.at h3.n = some (.cells (chC m vo vp vb x vs vq) 164) ∧ OwnL RInt (fun _ => False) (h3.n + 1) h vs 3 (selN m x root k).1 ∧ OwnL RInt (fun _ => False) (h3.n + 1) h vq 3 (selN m x root k).2 ∧ Disj vs vq ∧ Ext h3.n h3 h ∧ t.n = 39 ∧ t.get 7 = vr ∧ t.get 8 = .ptr h3.n 0 ∧ t.get 24 = .lit (.int .i64 (cntF n)) ∧ t.get 25 = .lit (.int .i64 k)) ?_ ?_ _ _ ?_
  · rintro k t h hlt hc ⟨vs, vq, P, hvs, hvq, hdj, he, hn, g7, g8, g24, g25⟩ ih
    have hws := wrap_succ hlt (by omega)
    have hld := (hr3.ext he (Nat.le_refl _)).int (T := tabOf Try.prog NT0) (e := 3) (by kernel_rfl) (by kernel_rfl) hrl
    rw [hrg, Nat.add_zero] at hld
    obtain ⟨q1, q2⟩ := selN_len m x root k
    simp only [core, zrA, zrS, zrM, zrL, zrE, reduceCtorEq, zrD, ziE, ziL, ziN, hn, g7, g8, g24, g25, hc, hld, r1, r2, hrl]
    refine (copy_x k (hm.ext (E3.step he) (Nat.le_refl _)) hok hlo hg hr0 hk3 P hvs hvq hdj q1 q2 (by omega) (selN_inv k)).mono ?_
    rintro _ h' ⟨rfl, e', vs', vq', P', hvs', hvq', hdj'⟩
    simp only [core, zrA, zrS, zrM, zrL, zrE, reduceCtorEq, zrD, ziE, ziL, ziN, hn, g7, g8, g24, g25, hws]
    refine ih _ _ ⟨vs', vq', P', hvs', hvq', hdj', he.trans e', ?_⟩
    simp only [core, zrA, zrS, zrM, zrL, zrE, reduceCtorEq, zrD, ziE, ziL, ziN, hn, g7, g8, g24, g25]
  · rintro t h hc ⟨vs, vq, P, hvs, hvq, hdj, he, hn, g7, g8, g24, g25⟩
    unfold chC at P
    have LP := ld_at (T := tabOf Try.prog NT0) P
    have lP := at_lt P
    have o4 := hvs.one
    simp only [core, zrA, zrS, zrM, zrL, zrE, reduceCtorEq, zrD, ziE, ziL, ziN, hn, g7, g8, g24, g25, hc, LP, lP, o4]
    refine ⟨E3.step he, ?_⟩
    rw [hsel]
    exact hvs.toSl (fun _ hf => hf.elim) (fun b hb => by have := E3.1; omega)
  · simp only [core, zrA, zrS, zrM, zrL, zrE, reduceCtorEq, zrD, ziE, ziL, ziN]
    exact ⟨_, _, P4, OwnL.nil, OwnL.nil, Disj.nil_l, e4, rfl⟩
end Go.Proofs.Ytjkmmbfenhhjkaa.Ex
end

section

set_option linter.unusedSimpArgs false
set_option linter.unusedVariables false
set_option maxRecDepth 10000
set_option maxHeartbeats 4000000
namespace Go.Proofs.Ytjkmmbfenhhjkaa.Ex
open Go
def hashPg (pool seed : Int) : Int := hash2F (IntKind.u32.wrap seed) (IntKind.u32.wrap pool)
def actF (m : MapD) (pool seed : Int) : List Int := match poolF m pool with
  | none => []
  | some p => if seed < 0 ∨ p.pgs ≤ seed ∨ 8 ≤ seed then [] else selectF m (hashPg pool seed) p.size
def pgV (pool seed : Int) : AV := .agg [.lit (.int .i64 pool), .lit (.int .i64 seed)]
theorem actF_able {m : MapD} {pool seed : Int} : ∀ o ∈ actF m pool seed, ableF m o = true := by
  unfold actF
  split
  · exact fun o ho => by cases ho
  · split
    · exact fun o ho => by cases ho
    · exact selectF_able
theorem actF_len {m : MapD} {pool seed : Int} : (actF m pool seed).length ≤ 8 := by
  unfold actF
  split
  · exact Nat.zero_le _
  · split
    · exact Nat.zero_le _
    · exact selectF_len
theorem act_x {F : Nat → Prop} {H : AH} {m : MapD} {vo vp vb : AV} (pool seed : Int) (hm : MpAt F H m vo vp vb) (hok : OkM m) (hlo : Sm 40 m.osds) (hpo : Sm 32 m.pools) :
    WC Try.prog (tabOf Try.prog NT0) S0 38 [mpV m vo vp vb, pgV pool seed] H fun v h' => Ext H.n H h' ∧ IsSl RInt (fun b => H.n ≤ b) h' v (actF m pool seed) := by
  refine WC_fn Try.func38 rfl rfl ?_
  have o1 := hm.o.one
  have o2 := hm.p.one
  have o3 := hm.b.one
  have i1 := hm.o.isSl
  have i2 := hm.p.isSl
  have i3 := hm.b.isSl
  simp only [core, zrA, zrS, zrM, zrL, zrE, reduceCtorEq, zrD, ziE, ziL, ziN, Try.ntmps38, mpV, pgV, o1, o2, o3]
  obtain ⟨h1, hh1⟩ : ∃ h1, h1 = (H.push (.cells [.lit (.int .i64 m.epoch), vo, vp, vb, .lit (.int .i64 m.leaf)] 72)).push (.cells [.lit (.int .i64 pool), .lit (.int .i64 seed)] 42) := ⟨_, rfl⟩
  have E1 : Ext H.n H h1 := hh1 ▸ ((Ext.refl _ _).push _ (Nat.le_refl _)).push _ (by rw [n_push]; omega)
  have A1 : h1.at H.n = some (.cells [.lit (.int .i64 m.epoch), vo, vp, vb, .lit (.int .i64 m.leaf)] 72) := hh1 ▸ (at_push_lt _ (by rw [n_push]; omega)).trans (at_push_n _ _)
  have B1 : h1.at (H.n + 1) = some (.cells [.lit (.int .i64 pool), .lit (.int .i64 seed)] 42) := hh1 ▸ at_push_n _ _
  have la1 := at_lt A1
  have lb1 := at_lt B1
  have LA1 := ld_at (T := tabOf Try.prog NT0) A1
  have LB1 := ld_at (T := tabOf Try.prog NT0) B1
  rw [← hh1]
  clear hh1
  refine (pool_x pool (hm.ext E1 (Nat.le_refl _)) hpo).mono ?_
  rintro _ h2 ⟨e2, rfl⟩
  have E2 := E1.step e2
  have A2 := (e2.2 _ la1).trans A1
  have B2 := (e2.2 _ lb1).trans B1
  simp only [core, zrA, zrS, zrM, zrL, zrE, reduceCtorEq, zrD, ziE, ziL, ziN, poolV]
  obtain ⟨h3, hh3⟩ : ∃ h3, h3 = h2.push (.cells [.lit (.int .i64 (poolG m pool).id), .lit (.int .i64 (poolG m pool).size), .lit (.int .i64 (poolG m pool).min), .lit (.int .i64 (poolG m pool).pgs)] 95) := ⟨_, rfl⟩
  have e3 : Ext h2.n h2 h3 := hh3 ▸ (Ext.refl _ _).push _ (Nat.le_refl _)
  have C3 : h3.at h2.n = some (.cells [.lit (.int .i64 (poolG m pool).id), .lit (.int .i64 (poolG m pool).size), .lit (.int .i64 (poolG m pool).min), .lit (.int .i64 (poolG m pool).pgs)] 95) := hh3 ▸ at_push_n _ _
  have E3 := E2.step e3
  have A3 := (e3.2 _ (at_lt A2)).trans A2
  have B3 := (e3.2 _ (at_lt B2)).trans B2
  have la3 := at_lt A3
  have lb3 := at_lt B3
  have lc3 := at_lt C3
  have LA3 := ld_at (T := tabOf Try.prog NT0) A3
  have LB3 := ld_at (T := tabOf Try.prog NT0) B3
  have LC3 := ld_at (T := tabOf Try.prog NT0) C3
  rw [← hh3]
  clear hh3
  by_cases hq : poolF m pool = none
  · simp only [core, zrA, zrS, zrM, zrL, zrE, reduceCtorEq, zrD, ziE, ziL, ziN, hq, Option.isSome_none]
    refine ⟨E3, ?_⟩
    unfold actF
    rw [hq]
    exact IsSl.nil
  obtain ⟨pl, hq⟩ := Option.ne_none_iff_exists'.1 hq
  have hG : poolG m pool = pl := by unfold poolG; rw [hq]; rfl
  rw [hG] at LC3
  have hbad : (seed < 0 ∨ pl.pgs ≤ seed ∨ 8 ≤ seed) → ∀ h', Ext H.n H h' → Ext H.n H h' ∧ IsSl RInt (fun b => H.n ≤ b) h' (.lit (.slice none 0 0)) (actF m pool seed) := fun hc h' e => by
    refine ⟨e, ?_⟩
    unfold actF
    rw [hq]
    simp only [if_pos hc]
    exact IsSl.nil
  by_cases c1 : seed < 0
  · simp only [core, zrA, zrS, zrM, zrL, zrE, reduceCtorEq, zrD, ziE, ziL, ziN, hq, Option.isSome_some, LB3, lb3, c1]
    exact hbad (.inl c1) _ E3
  by_cases c2 : pl.pgs ≤ seed
  · by_cases c4 : 8 < pl.pgs
    · have c5 : 8 ≤ seed := by omega
      simp only [core, zrA, zrS, zrM, zrL, zrE, reduceCtorEq, zrD, ziE, ziL, ziN, hq, Option.isSome_some, LB3, lb3, LC3, lc3, c1, c4, c5]
      exact hbad (.inr (.inl c2)) _ E3
    · simp only [core, zrA, zrS, zrM, zrL, zrE, reduceCtorEq, zrD, ziE, ziL, ziN, hq, Option.isSome_some, LB3, lb3, LC3, lc3, c1, c2, c4]
      exact hbad (.inr (.inl c2)) _ E3
  by_cases c3 : 8 ≤ seed
  · have c4 : 8 < pl.pgs := by omega
    simp only [core, zrA, zrS, zrM, zrL, zrE, reduceCtorEq, zrD, ziE, ziL, ziN, hq, Option.isSome_some, LB3, lb3, LC3, lc3, c1, c4, c3]
    exact hbad (.inr (.inr c3)) _ E3
  have hact : actF m pool seed = selectF m (hashPg pool seed) pl.size := by
    unfold actF
    rw [hq]
    simp only [if_neg (show ¬ (seed < 0 ∨ pl.pgs ≤ seed ∨ 8 ≤ seed) by omega)]
  have c4 : ((if 8 < pl.pgs then 8 else pl.pgs) ≤ seed) = False := by
    simp only [eq_iff_iff, iff_false]
    split <;> omega
  simp only [core, zrA, zrS, zrM, zrL, zrE, reduceCtorEq, zrD, ziE, ziL, ziN, hq, Option.isSome_some, LB3, lb3, LC3, lc3, c1, c4]
  rw [WB_regionD [0, 2, 3, 4, 5, 6, 7, 9, 10, 13, 1, 8, 11, 12] 1532168142376787500481165071645569925414942425950978048 (by kernel_rfl)]
  repeat ((with_reducible refine WDM_cons ?_; simp only [dw1]; try simp only [dw2, zrA, zrM, zrR, zrO, zrE]); simp only [core, zrA, zrS, zrM, zrL, zrE, reduceCtorEq, zrD, ziE, ziL, ziN, cored, LA3, la3, LB3, lb3, LC3, lc3, i1, i2, i3])
  refine new_x.mono ?_
  rintro _ h4 ⟨q, rfl, e4⟩
  have E4 := E3.step e4
  have A4 := (e4.2 _ la3).trans A3
  have B4 := (e4.2 _ lb3).trans B3
  have C4 := (e4.2 _ lc3).trans C3
  rw [hG] at C4
  have la4 := at_lt A4
  have lb4 := at_lt B4
  have lc4 := at_lt C4
  have LA4 := ld_at (T := tabOf Try.prog NT0) A4
  have LB4 := ld_at (T := tabOf Try.prog NT0) B4
  have LC4 := ld_at (T := tabOf Try.prog NT0) C4
  repeat ((with_reducible refine WDM_cons ?_; simp only [dw1]; try simp only [dw2, zrA, zrM, zrR, zrO, zrE]); simp only [core, zrA, zrS, zrM, zrL, zrE, reduceCtorEq, zrD, ziE, ziL, ziN, cored, LA4, la4, LB4, lb4, LC4, lc4, i1, i2, i3])
  refine hash2_c ?_
  repeat ((with_reducible refine WDM_cons ?_; simp only [dw1]; try simp only [dw2, zrA, zrM, zrR, zrO, zrE]); simp only [core, zrA, zrS, zrM, zrL, zrE, reduceCtorEq, zrD, ziE, ziL, ziN, cored, LA4, la4, LB4, lb4, LC4, lc4, i1, i2, i3])
  refine (selectC_x _ _ (hm.ext E4 (Nat.le_refl _)) hok hlo).mono ?_
  rintro v h5 ⟨e5, hv⟩
  have E5 := E4.step e5
  have A5 := (e5.2 _ la4).trans A4
  have la5 := at_lt A5
  have v1 := hv.isSl
  have v2 := hv.lenD
  rw [show hash2F (IntKind.u32.wrap seed) (IntKind.u32.wrap pool) = hashPg pool seed from rfl, ← hact] at hv v2
  repeat ((with_reducible refine WDM_cons ?_; simp only [dw1]; try simp only [dw2, zrA, zrM, zrR, zrO, zrE]); simp only [core, zrA, zrS, zrM, zrL, zrE, reduceCtorEq, zrD, ziE, ziL, ziN, cored, v1, v2, i1, i2, i3])
  have hlen := actF_len (m := m) (pool := pool) (seed := seed)
  refine WB_for (actF m pool seed).length (fun i t h => ∃ o, OwnL RInt (fun _ => False) h5.n h o 3 ((actF m pool seed).take i) ∧ Ext h5.n h5 h ∧ t.n = 58 ∧ t.get 2 = .ptr H.n 0 ∧ t.get 7 = o ∧ t.get 43 = v ∧ t.get 44 = .lit (.int .i64 (actF m pool seed).length) ∧ t.get 45 = .lit (.int .i64 i)) ?_ ?_ _ _ ?_
  · rintro i t h hlt hc ⟨o, ho, he, hn, g2, g7, g43, g44, g45⟩ ih
    have E6 := E5.step he
    have A6 := (he.2 _ la5).trans A5
    have la6 := at_lt A6
    have LA6 := ld_at (T := tabOf Try.prog NT0) A6
    have hws := wrap_succ hlt (by omega)
    have hld := (hv.ext he (Nat.le_refl _)).int (T := tabOf Try.prog NT0) (e := 3) (by kernel_rfl) (by kernel_rfl) hlt
    have hel := getD_some' (0 : Int) hlt
    have hab := actF_able ((actF m pool seed).getD i 0) (List.mem_of_getElem? hel)
    have I1 := hv.i64 i hlt
    simp only [core, zrA, zrS, zrM, zrL, zrE, reduceCtorEq, zrD, ziE, ziL, ziN, hn, g2, g7, g43, g44, g45, hc, hlt, hld, LA6, la6, v1, v2]
    refine (able_x _ (hm.ext E6 (Nat.le_refl _)) hlo).mono ?_
    rintro _ h7 ⟨e7, rfl⟩
    have he7 := he.step e7
    have ho7 := ho.ext e7 (Nat.le_refl _)
    simp only [core, zrA, zrS, zrM, zrL, zrE, reduceCtorEq, zrD, ziE, ziL, ziN, hn, g2, g7, g43, g44, g45, hab]
    obtain ⟨h8, hh8⟩ : ∃ h8, h8 = h7.push (.cells [.lit (.int .i64 ((actF m pool seed).getD i 0))] 3) := ⟨_, rfl⟩
    have e8 : Ext h7.n h7 h8 := hh8 ▸ (Ext.refl _ _).push _ (Nat.le_refl _)
    have A8 : h8.at h7.n = some (.cells [.lit (.int .i64 ((actF m pool seed).getD i 0))] 3) := hh8 ▸ at_push_n h7 _
    have q7 := he7.1
    have q8 := e8.1
    rw [← hh8]
    have htl : ((actF m pool seed).take i).length = i := by rw [List.length_take]; omega
    refine WOp_app ((ho7.ext e8 (Nat.le_refl _)).snoc (by kernel_rfl) (by kernel_rfl) (by kernel_rfl) (zv := .lit (.int .i64 0)) (by kernel_rfl) (by' := 8) (by kernel_rfl) rfl (by decide) (by decide) A8 (y := (actF m pool seed).getD i 0) ⟨rfl, I1⟩ (by omega) (by omega) (by omega)) ?_
    rintro s9 h9 ⟨ho9, e9, k9⟩
    have t9 := ho9.one
    simp only [core, zrA, zrS, zrM, zrL, zrE, reduceCtorEq, zrD, ziE, ziL, ziN, hn, g2, g7, g43, g44, g45, t9, hws]
    refine ih _ _ ⟨s9, ?_, (he7.step e8).trans e9, ?_⟩
    · rw [List.take_add_one, hel]
      exact ho9
    · simp only [core, zrA, zrS, zrM, zrL, zrE, reduceCtorEq, zrD, ziE, ziL, ziN, hn, g2, g7, g43, g44, g45]
  · rintro t h hc ⟨o, ho, he, hn, g2, g7, g43, g44, g45⟩
    have t9 := ho.one
    rw [List.take_length] at ho
    simp only [core, zrA, zrS, zrM, zrL, zrE, reduceCtorEq, zrD, ziE, ziL, ziN, hn, g2, g7, g43, g44, g45, hc, t9]
    refine ⟨E5.step he, ?_⟩
    exact ho.toSl (fun _ hf => hf.elim) (fun b hb => by have := E5.1; omega)
  · simp only [core, zrA, zrS, zrM, zrL, zrE, reduceCtorEq, zrD, ziE, ziL, ziN]
    exact ⟨_, OwnL.nil, Ext.refl _ _, rfl, rfl⟩
end Go.Proofs.Ytjkmmbfenhhjkaa.Ex
end

section

set_option linter.unusedSimpArgs false
set_option linter.unusedVariables false
set_option maxRecDepth 10000
set_option maxHeartbeats 4000000
namespace Go.Proofs.Ytjkmmbfenhhjkaa.Ex
open Go
def upA : ChD := ⟨1, 0, 3, ⟨0, 0, 0, 0⟩, ⟨0, 0, [], []⟩⟩
def upB : ChD := ⟨6, 0, 0, ⟨0, 0, 0, 0⟩, ⟨-1, 3, [0], [65536]⟩⟩
def upC : ChD := ⟨5, 0, 0, ⟨1, 1, 1, 1⟩, ⟨0, 0, [], []⟩⟩
def upI : IncD := ⟨1, [upA, upB, upC]⟩
theorem up_x {H : AH} : WC Try.prog (tabOf Try.prog NT0) S0 7 [] H fun r h' => Ext H.n H h' ∧ IsSl RInc (fun b => H.n ≤ b) h' r [upI] := by
  refine WC_fn Try.func7 rfl rfl ?_
  simp only [core, zrA, zrS, zrM, zrL, zrE, reduceCtorEq, zrD, ziE, ziL, ziN, Try.ntmps7]
  obtain ⟨bs, hbs⟩ : ∃ bs : List AB, bs = [.cells [.lit (.int .i64 0)] 3, .cells [.lit (.int .i64 65536)] 3, .cells [.lit (.int .i64 (-1)), .lit (.int .i64 3), .sl H.n 0 1 (.kn 1), .sl (H.n + 1) 0 1 (.kn 1)] 93,
    .cells ([[.lit (.int .i64 1), .lit (.int .i64 0), .lit (.int .i64 3), .lit (.int .i64 0), .lit (.int .i64 0), .lit (.int .i64 0), .lit (.int .i64 0), .lit (.int .i64 0), .lit (.int .i64 0), .lit (.slice none 0 0), .lit (.slice none 0 0)],
     [.lit (.int .i64 6), .lit (.int .i64 0), .lit (.int .i64 0), .lit (.int .i64 0), .lit (.int .i64 0), .lit (.int .i64 0), .lit (.int .i64 0), .lit (.int .i64 (-1)), .lit (.int .i64 3), .sl H.n 0 1 (.kn 1), .sl (H.n + 1) 0 1 (.kn 1)],
     [.lit (.int .i64 5), .lit (.int .i64 0), .lit (.int .i64 0), .lit (.int .i64 1), .lit (.int .i64 1), .lit (.int .i64 1), .lit (.int .i64 1), .lit (.int .i64 0), .lit (.int .i64 0), .lit (.slice none 0 0), .lit (.slice none 0 0)]] : List (List AV)).flatten 97,
    .cells [.lit (.int .i64 1), .sl (H.n + 3) 0 3 (.kn 3)] 85] := ⟨_, rfl⟩
  have hh : Ext H.n H (pushL H bs) ∧ IsSl RInc (fun b => H.n ≤ b) (pushL H bs) (.sl (H.n + 4) 0 1 (.kn 1)) [upI] := by
    have at' : ∀ i x, bs[i]? = some x → (pushL H bs).at (H.n + i) = some x := fun i x e => pushL_at e
    have A0 := at' 0 _ (by rw [hbs]; rfl)
    have A1 := at' 1 _ (by rw [hbs]; rfl)
    have A3 := at' 3 _ (by rw [hbs]; rfl)
    have A4 := at' 4 _ (by rw [hbs]; rfl)
    refine ⟨pushL_ext (Nat.le_refl _), ?_⟩
    generalize pushL H bs = h' at A0 A1 A3 A4
    have i64 : ∀ n : Int, -65536 ≤ n → n ≤ 65536 → I64 n := fun n a b => ⟨by omega, by omega⟩
    have S0 : IsSl RInt (fun b => H.n ≤ b) h' (.sl H.n 0 1 (.kn 1)) [0] := IsSl.ofAt (L := [[.lit (.int .i64 0)]]) A0 (Nat.le_refl _) (Els.nil.snoc (RInt_is.2 ⟨rfl, i64 _ (by decide) (by decide)⟩)) rfl
    have S1 : IsSl RInt (fun b => H.n ≤ b) h' (.sl (H.n + 1) 0 1 (.kn 1)) [65536] := IsSl.ofAt (L := [[.lit (.int .i64 65536)]]) A1 (by omega) (Els.nil.snoc (RInt_is.2 ⟨rfl, i64 _ (by decide) (by decide)⟩)) rfl
    have nn : IsSl RInt (fun b => H.n ≤ b) h' (.lit (.slice none 0 0)) [] := .nil
    have ia : ∀ n : Int, n = 0 ∨ n = 1 ∨ n = 3 ∨ n = 5 ∨ n = 6 ∨ n = -1 → I64 n := fun n a => i64 n (by omega) (by omega)
    have rA : RCh.is (fun b => H.n ≤ b) h' [.lit (.int .i64 1), .lit (.int .i64 0), .lit (.int .i64 3), .lit (.int .i64 0), .lit (.int .i64 0), .lit (.int .i64 0), .lit (.int .i64 0), .lit (.int .i64 0), .lit (.int .i64 0), .lit (.slice none 0 0), .lit (.slice none 0 0)] upA :=
      RCh_is.2 ⟨_, _, rfl, nn, nn, ⟨ia _ (by decide), ia _ (by decide), ia _ (by decide)⟩, ⟨ia _ (by decide), ia _ (by decide), ia _ (by decide), ia _ (by decide)⟩, ia _ (by decide), ia _ (by decide)⟩
    have rB : RCh.is (fun b => H.n ≤ b) h' [.lit (.int .i64 6), .lit (.int .i64 0), .lit (.int .i64 0), .lit (.int .i64 0), .lit (.int .i64 0), .lit (.int .i64 0), .lit (.int .i64 0), .lit (.int .i64 (-1)), .lit (.int .i64 3), .sl H.n 0 1 (.kn 1), .sl (H.n + 1) 0 1 (.kn 1)] upB :=
      RCh_is.2 ⟨_, _, rfl, S0, S1, ⟨ia _ (by decide), ia _ (by decide), ia _ (by decide)⟩, ⟨ia _ (by decide), ia _ (by decide), ia _ (by decide), ia _ (by decide)⟩, ia _ (by decide), ia _ (by decide)⟩
    have rC : RCh.is (fun b => H.n ≤ b) h' [.lit (.int .i64 5), .lit (.int .i64 0), .lit (.int .i64 0), .lit (.int .i64 1), .lit (.int .i64 1), .lit (.int .i64 1), .lit (.int .i64 1), .lit (.int .i64 0), .lit (.int .i64 0), .lit (.slice none 0 0), .lit (.slice none 0 0)] upC :=
      RCh_is.2 ⟨_, _, rfl, nn, nn, ⟨ia _ (by decide), ia _ (by decide), ia _ (by decide)⟩, ⟨ia _ (by decide), ia _ (by decide), ia _ (by decide), ia _ (by decide)⟩, ia _ (by decide), ia _ (by decide)⟩
    have S3 : IsSl RCh (fun b => H.n ≤ b) h' (.sl (H.n + 3) 0 3 (.kn 3)) [upA, upB, upC] := IsSl.ofAt A3 (by omega) (((Els.nil.snoc rA).snoc rB).snoc rC) rfl
    exact IsSl.ofAt (L := [[.lit (.int .i64 1), .sl (H.n + 3) 0 3 (.kn 3)]]) A4 (by omega) (Els.nil.snoc (RInc_is.2 ⟨_, rfl, S3, ia _ (by decide)⟩)) rfl
  rw [hbs] at hh
  exact hh
/-- The map behind this change. -/
def M1 : MapD := ⟨1, [⟨true, true, 65536, 3, 1, 0⟩], [⟨1, 1, 1, 1⟩], [⟨-1, 3, [0], [65536]⟩], 0⟩
set_option maxRecDepth 100000 in
theorem up_M1 : applyD map0 upI = (M1, 0) := by decide +kernel
theorem step_M1 : stepD map0 [upI] = M1 := by
  rw [stepD_cons, if_neg (by decide), up_M1]
  rfl
theorem st_M1 : StOk M1 3 := by
  have h := (applyD_st (x := upI) (m := map0) (k := 0) ⟨os_all0, rfl, Nat.zero_le _, Nat.le_refl _, Nat.le_refl _, fun b hb => by cases hb⟩ (by decide) (by rw [up_M1])).1
  rw [up_M1] at h
  exact h
set_option maxRecDepth 100000 in
theorem act_M1 : actF M1 1 0 = [0] := by decide +kernel
theorem prim_x {F : Nat → Prop} {H : AH} {vo vp vb : AV} (hm : MpAt F H M1 vo vp vb) :
    WC Try.prog (tabOf Try.prog NT0) S0 27 [mpV M1 vo vp vb, .agg [.lit (.int .i64 1), .lit (.int .i64 0)]] H fun r h' => Ext H.n H h' ∧ r = .tup [.lit (.int .i64 0), .lit (.bool true)] := by
  refine WC_fn Try.func27 rfl rfl ?_
  have o1 := hm.o.one
  have o2 := hm.p.one
  have o3 := hm.b.one
  simp only [core, zrA, zrS, zrM, zrL, zrE, reduceCtorEq, zrD, ziE, ziL, ziN, Try.ntmps27, mpV, o1, o2, o3]
  obtain ⟨hp, hhp⟩ : ∃ hp, hp = (H.push (mC M1 vo vp vb)).push (.cells [.lit (.int .i64 1), .lit (.int .i64 0)] 42) := ⟨_, rfl⟩
  have EP : Ext H.n H hp := hhp ▸ ((Ext.refl _ _).push _ (Nat.le_refl _)).push _ (by rw [n_push]; omega)
  unfold mC at hhp
  rw [← hhp]
  have ok := st_M1.ok (by decide)
  refine (act_x 1 0 (hm.ext EP (Nat.le_refl _)) ⟨ok.2.2.1, ok.2.2.2, trivial⟩ ok.1.1 ok.2.1.1).mono ?_
  rintro _ h2 ⟨e2, hs⟩
  rw [act_M1] at hs
  have s1 := hs.isSl
  have s2 := hs.lenD
  have s3 := hs.one
  obtain ⟨cc, hc1, hld, hld0⟩ := hs.at (T := tabOf Try.prog NT0) (z := 1) rfl (i := 0) (x := 0) rfl
  obtain ⟨rfl, -⟩ := RInt_is.1 hc1
  have ld := hld0 3 1 (by kernel_rfl) (by decide) (by decide)
  rw [Nat.zero_mul, Nat.add_zero] at ld
  have s2' : lenD _ = 1 := s2
  have h10 : (((1 : Nat) : Int) == 0) = false := rfl
  simp only [core, zrA, zrS, zrM, zrL, zrE, reduceCtorEq, zrD, ziE, ziL, ziN, s1, s2', s3, ld, h10]
  exact EP.trans (e2.mono EP.1)
end Go.Proofs.Ytjkmmbfenhhjkaa.Ex
end

section

set_option linter.unusedSimpArgs false
set_option linter.unusedVariables false
namespace Go.Proofs.Ytjkmmbfenhhjkaa.Ex
open Go
theorem ownB_app {n0 : Nat} {H : AH} {v x : AV} {xs ys : List UInt8} {F : Nat → Prop} (ho : OwnB n0 H v xs) (hx : IsSl RByte F H x ys) (hl : xs.length + ys.length ≤ 140737488355328) (hn0 : n0 ≤ H.n) :
    ∃ s' h', appendA (tabOf Try.prog NT0) H 26 26 v x = some (s', h') ∧ OwnB n0 h' s' (xs ++ ys) ∧ Ext n0 H h' := by
  obtain ⟨L, h1, h2, hc, h3⟩ := hx.out
  have hM : Els RByte (fun b => False ∧ Apart v b) H L ys := ⟨h3.1, fun i c x h1 h2 => h3.2 i c x h1 h2⟩
  obtain ⟨s', h', a1, a2, a3, a4⟩ := OwnL.append ho (T := tabOf Try.prog NT0) (t := 26) (tx := 26) (by kernel_rfl) (by kernel_rfl) (by kernel_rfl) (zv := .lit (.int .u8 0)) (by kernel_rfl) (by' := 1) (by kernel_rfl) rfl (by decide) (by decide) h1.src h1.len hM (by omega) (by omega) hn0
  exact ⟨s', h', a1, a2, a3⟩
end Go.Proofs.Ytjkmmbfenhhjkaa.Ex
end

section

set_option linter.unusedSimpArgs false
set_option linter.unusedVariables false
set_option maxRecDepth 10000
set_option maxHeartbeats 4000000
namespace Go.Proofs.Ytjkmmbfenhhjkaa.Ex
open Go
structure OpD where
  k : Int
  s : ByteArray
  d : List UInt8
  e : Int
  n : Int
def opL (o : OpD) (vd : AV) : List AV := [.lit (.int .i64 o.k), .lit (.string o.s), vd, .lit (.int .i64 o.e), .lit (.int .i64 o.n)]
def ocC (o : OpD) (vd : AV) (num tries : Int) : AB := .cells [.lit (.int .i64 1), .lit (.int .i64 0), .lit (.int .i64 0), .lit (.bool false), .lit (.int .i64 o.k), .lit (.string o.s), vd, .lit (.int .i64 o.e), .lit (.int .i64 o.n), .lit (.int .i64 num), .lit (.int .i64 tries)] 89
def cliB (c : CliD) (m : MapD) (vo vp vb : AV) (num : Int) (now ans : AV) : AB := .cells [.lit (.int .i64 c.k), .lit (.int .i64 c.i), .lit (.int .i64 c.boot), .lit (.int .i64 c.mons), .lit (.int .i64 c.tries), .lit (.int .i64 m.epoch), vo, vp, vb, .lit (.int .i64 m.leaf), .lit (.int .i64 num), now, ans] 82
/-- The client at q has the op at p under way. -/
structure Bz (q p B : Nat) (h : AH) (c : CliD) (o : OpD) (tries : Int) (vo vp vb vd : AV) : Prop where
  qB : q < B
  Bp : B ≤ p
  cq : h.at q = some (cliB c M1 vo vp vb 1 (.ptr p 0) (.lit (.pointer none)))
  m : MpAt (fun b => q < b ∧ b < B) h M1 vo vp vb
  cp : h.at p = some (ocC o vd 1 tries)
  d : IsSl RByte (fun b => b ≠ q ∧ b ≠ p) h vd o.d
theorem Bz.ext {q p B : Nat} {H h : AH} {c : CliD} {o : OpD} {tries : Int} {vo vp vb vd : AV} (z : Bz q p B H c o tries vo vp vb vd) (e : Ext H.n H h) : Bz q p B h c o tries vo vp vb vd :=
  ⟨z.qB, z.Bp, (e.2 _ (at_lt z.cq)).trans z.cq, z.m.ext e (Nat.le_refl _), (e.2 _ (at_lt z.cp)).trans z.cp, z.d.ext e (Nat.le_refl _)⟩
theorem stab1_x {H : AH} (x : Int) : WC Try.prog (tabOf Try.prog NT0) S0 48 [.lit (.int .u32 x), .lit (.int .i64 1)] H fun r h' => r = .lit (.int .i64 0) ∧ h' = H := by
  refine WC_fn Try.func48 rfl rfl ?_
  have h12 : ((1 : Int) < 2) = True := by simp
  simp only [core, zrA, zrS, zrM, zrL, zrE, reduceCtorEq, zrD, ziE, ziL, ziN, Try.ntmps48, h12]
theorem pg_x {F : Nat → Prop} {H : AH} {vo vp vb : AV} {s : ByteArray} (hm : MpAt F H M1 vo vp vb) (hs : s.size ≤ 140737488351232) (hg : goodB s.data.toList = true) :
    WC Try.prog (tabOf Try.prog NT0) S0 37 [mpV M1 vo vp vb, .lit (.int .i64 1), .lit (.string s)] H fun r h' => Ext H.n H h' ∧ r = .tup [.agg [.lit (.int .i64 1), .lit (.int .i64 0)], .lit (.int .i64 0)] := by
  refine WC_fn Try.func37 rfl rfl ?_
  have o1 := hm.o.one
  have o2 := hm.p.one
  have o3 := hm.b.one
  simp only [core, zrA, zrS, zrM, zrL, zrE, reduceCtorEq, zrD, ziE, ziL, ziN, Try.ntmps37, mpV, o1, o2, o3]
  obtain ⟨hp, hhp⟩ : ∃ hp, hp = (H.push (mC M1 vo vp vb)).push (.cells [.lit (.int .i64 0), .lit (.int .i64 0)] 42) := ⟨_, rfl⟩
  have EP : Ext H.n H hp := hhp ▸ ((Ext.refl _ _).push _ (Nat.le_refl _)).push _ (by rw [n_push]; omega)
  have Q0 : hp.at (H.n + 1) = some (.cells [.lit (.int .i64 0), .lit (.int .i64 0)] 42) := hhp ▸ at_push_n (H.push (mC M1 vo vp vb)) _
  have nP : hp.n = H.n + 2 := by rw [hhp, n_push, n_push]
  unfold mC at hhp
  rw [← hhp]
  have ok := st_M1.ok (by decide)
  refine (pool_x 1 (hm.ext EP (Nat.le_refl _)) ok.2.1.1).mono ?_
  rintro _ h2 ⟨e2, rfl⟩
  have hpl : poolG M1 1 = ⟨1, 1, 1, 1⟩ := rfl
  have hps : (poolF M1 1).isSome = true := rfl
  rw [hpl, hps]
  unfold poolV
  obtain ⟨h3, hh3⟩ : ∃ h3, h3 = h2.push (.cells [.lit (.int .i64 1), .lit (.int .i64 1), .lit (.int .i64 1), .lit (.int .i64 1)] 95) := ⟨_, rfl⟩
  have e3 : Ext h2.n h2 h3 := hh3 ▸ (Ext.refl _ _).push _ (Nat.le_refl _)
  have X3 : h3.at h2.n = some (.cells [.lit (.int .i64 1), .lit (.int .i64 1), .lit (.int .i64 1), .lit (.int .i64 1)] 95) := hh3 ▸ at_push_n _ _
  have E3 := EP.trans ((e2.trans (e3.mono e2.1)).mono EP.1)
  have Q3 := ((e2.trans (e3.mono e2.1)).2 _ (at_lt Q0)).trans Q0
  have LX3 := ld_at (T := tabOf Try.prog NT0) X3
  have lX3 := at_lt X3
  simp only [core, zrA, zrS, zrM, zrL, zrE, reduceCtorEq, zrD, ziE, ziL, ziN, ← hh3, LX3, lX3]
  refine good_s hs ?_
  rw [hg]
  simp only [core, zrA, zrS, zrM, zrL, zrE, reduceCtorEq, zrD, ziE, ziL, ziN, ← hh3, LX3, lX3]
  rw [WB_regionD [0, 1, 3, 5, 6, 2, 4, 7, 8, 9, 10] 1328253885236058694439228661949270016 (by kernel_rfl)]
  repeat ((with_reducible refine WDM_cons ?_; simp only [dw1]; try simp only [dw2, zrA, zrM, zrR, zrO, zrE]); simp only [core, zrA, zrS, zrM, zrL, zrE, reduceCtorEq, zrD, ziE, ziL, ziN, cored, LX3, lX3])
  refine new_x.mono ?_
  rintro _ h4 ⟨pe, rfl, e4⟩
  have e34 := e4
  have X4 := (e4.2 _ lX3).trans X3
  have LX4 := ld_at (T := tabOf Try.prog NT0) X4
  have lX4 := at_lt X4
  have Q4 := (e4.2 _ (at_lt Q3)).trans Q3
  have lQ4 := at_lt Q4
  have E4 := E3.trans (e4.mono E3.1)
  repeat ((with_reducible refine WDM_cons ?_; simp only [dw1]; try simp only [dw2, zrA, zrM, zrR, zrO, zrE]); simp only [core, zrA, zrS, zrM, zrL, zrE, reduceCtorEq, zrD, ziE, ziL, ziN, cored, LX4, lX4])
  refine name_s hs ?_
  repeat ((with_reducible refine WDM_cons ?_; simp only [dw1]; try simp only [dw2, zrA, zrM, zrR, zrO, zrE]); simp only [core, zrA, zrS, zrM, zrL, zrE, reduceCtorEq, zrD, ziE, ziL, ziN, cored, LX4, lX4])
  refine (stab1_x _).mono ?_
  rintro _ _ ⟨rfl, q5⟩
  replace q5 := q5.symm
  subst q5
  repeat (first | ((with_reducible refine WDM_cons ?_; simp only [dw1]; try simp only [dw2, zrA, zrM, zrR, zrO, zrE]); simp only [core, zrA, zrS, zrM, zrL, zrE, reduceCtorEq, zrD, ziE, ziL, ziN, cored, LX4, lX4, Q4, lQ4]) | simp only [core, zrA, zrS, zrM, zrL, zrE, reduceCtorEq, zrD, ziE, ziL, ziN, cored, LX4, lX4, Q4, lQ4])
  exact E4.put _ (by omega)
theorem target_x {q p B : Nat} {H : AH} {c : CliD} {o : OpD} {tries : Int} {vo vp vb vd : AV} (z : Bz q p B H c o tries vo vp vb vd) (hs : o.s.size ≤ 140737488351232) (hg : goodB o.s.data.toList = true) :
    WC Try.prog (tabOf Try.prog NT0) S0 26 [.ptr q 0] H fun r h' => Ext H.n H h' ∧ r = .tup [.agg [.lit (.int .i64 1), .lit (.int .i64 0)], .lit (.bool true)] := by
  refine WC_fn Try.func26 rfl rfl ?_
  obtain ⟨hA, hhA⟩ : ∃ hA, hA = H.push (.cells [.lit (.int .i64 0), .lit (.int .i64 0)] 42) := ⟨_, rfl⟩
  have eA : Ext H.n H hA := hhA ▸ (Ext.refl _ _).push _ (Nat.le_refl _)
  have XA : hA.at H.n = some (.cells [.lit (.int .i64 0), .lit (.int .i64 0)] 42) := hhA ▸ at_push_n _ _
  have zA := z.ext eA
  have Y := zA.cq
  have P := zA.cp
  unfold cliB at Y
  unfold ocC at P
  have L := ld_at (T := tabOf Try.prog NT0) Y
  have l := at_lt Y
  have LP := ld_at (T := tabOf Try.prog NT0) P
  have lP := at_lt P
  have o1 := zA.m.o.one
  have o2 := zA.m.p.one
  have o3 := zA.m.b.one
  have i1 := zA.m.o.isSl
  have i2 := zA.m.p.isSl
  have i3 := zA.m.b.isSl
  simp only [core, zrA, zrS, zrM, zrL, zrE, reduceCtorEq, zrD, ziE, ziL, ziN, Try.ntmps26, ← hhA, L, l, LP, lP]
  rw [WB_regionD [0, 1, 2, 3, 4, 5, 6, 7, 8, 9, 10, 11, 12, 13, 14, 15, 16, 17, 18, 23, 19, 20, 21, 22, 24, 25] 156764262145084294503345828874175938759992676731015851620009871476036850114455618712750830698131720627890697207372071914349583815453986559945025722023737099851478105339540480986161507367718126826878402560 (by kernel_rfl)]
  repeat ((with_reducible refine WDM_cons ?_; simp only [dw1]; try simp only [dw2, zrA, zrM, zrR, zrO, zrE]); simp only [core, zrA, zrS, zrM, zrL, zrE, reduceCtorEq, zrD, ziE, ziL, ziN, cored, L, l, LP, lP, o1, o2, o3])
  refine ⟨by simp only [same_sl, i1, i2, i3, Bool.and_self], ?_⟩
  obtain ⟨hB, hhB⟩ : ∃ hB, hB = hA.push (.cells [.lit (.int .i64 0), .lit (.int .i64 0)] 42) := ⟨_, rfl⟩
  rw [← hhB]
  have eB : Ext hA.n hA hB := hhB ▸ (Ext.refl _ _).push _ (Nat.le_refl _)
  have ZB : hB.at hA.n = some (.cells [.lit (.int .i64 0), .lit (.int .i64 0)] 42) := hhB ▸ at_push_n _ _
  refine (pg_x (zA.m.ext eB (Nat.le_refl _)) hs hg).mono ?_
  rintro _ h4 ⟨e4, rfl⟩
  have Z4 := (e4.2 _ (at_lt ZB)).trans ZB
  have lZ4 := at_lt Z4
  have eB4 := eB.trans (e4.mono eB.1)
  have E4 := eA.trans (eB4.mono eA.1)
  have X4 := (eB4.2 _ (at_lt XA)).trans XA
  have lX4 := at_lt X4
  have nA : hA.n = H.n + 1 := by rw [hhA, n_push]
  obtain ⟨h5, hh5⟩ : ∃ h5, h5 = h4.put hA.n (.cells [.lit (.int .i64 1), .lit (.int .i64 0)] 42) := ⟨_, rfl⟩
  have Z5 : h5.at hA.n = some (.cells [.lit (.int .i64 1), .lit (.int .i64 0)] 42) := hh5 ▸ at_put_same _ lZ4
  have X5 : h5.at H.n = _ := (hh5 ▸ at_put_ne _ (by omega)).trans X4
  have LZ5 := ld_at (T := tabOf Try.prog NT0) Z5
  have lZ5 := at_lt Z5
  have lX5 := at_lt X5
  have E5 : Ext H.n H h5 := hh5 ▸ E4.put _ (by omega)
  have h00 : ((0 : Int) == 0) = true := rfl
  repeat (first | ((with_reducible refine WDM_cons ?_; simp only [dw1]; try simp only [dw2, zrA, zrM, zrR, zrO, zrE]); simp only [core, zrA, zrS, zrM, zrL, zrE, reduceCtorEq, zrD, ziE, ziL, ziN, cored, Z4, lZ4, ← hh5, Z5, LZ5, lZ5, X5, lX5, h00]) | simp only [core, zrA, zrS, zrM, zrL, zrE, reduceCtorEq, zrD, ziE, ziL, ziN, cored, Z4, lZ4, ← hh5, Z5, LZ5, lZ5, X5, lX5, h00])
  exact E5.put _ (Nat.le_refl _)
end Go.Proofs.Ytjkmmbfenhhjkaa.Ex
end

section

set_option linter.unusedSimpArgs false
set_option linter.unusedVariables false
set_option maxRecDepth 10000
set_option maxHeartbeats 4000000
namespace Go.Proofs.Ytjkmmbfenhhjkaa.Ex
open Go
structure MsD where
  kind : Int
  fk : Int
  fi : Int
  tk : Int
  ti : Int
  boot : Int
  ep : Int
  pp : Int
  ps : Int
  client : Int
  num : Int
  ok : Int
  os : ByteArray
  od : AV
  oe : Int
  on : Int
def msC (x : MsD) : List AV :=
  [.lit (.int .i64 x.kind), .lit (.int .i64 x.fk), .lit (.int .i64 x.fi), .lit (.int .i64 x.tk), .lit (.int .i64 x.ti), .lit (.int .i64 x.boot), .lit (.int .i64 x.ep), .lit (.int .i64 x.pp), .lit (.int .i64 x.ps), .lit (.int .i64 x.client), .lit (.int .i64 x.num), .lit (.int .i64 0), .lit (.slice none 0 0), .lit (.slice none 0 0), .lit (.slice none 0 0),
   .lit (.int .i64 0), .lit (.int .i64 0), .lit (.int .i64 0), .lit (.int .i64 0), .lit (.int .i64 0), .lit (.int .i64 0), .lit (.int .i64 0), .lit (.int .i64 0), .lit (.int .i64 0), .lit (.slice none 0 0), .lit (.slice none 0 0), .lit (.slice none 0 0), .lit (.int .i64 0), .lit (.int .i64 0), .lit (.bool false), .lit (.int .i64 0), .lit (.string ⟨#[]⟩), .lit (.int .i64 0), .lit (.int .i64 0), .lit (.string ⟨#[]⟩), .lit (.int .i64 0), .lit (.int .i64 0), .lit (.slice none 0 0),
   .lit (.int .i64 x.ok), .lit (.string x.os), x.od, .lit (.int .i64 x.oe), .lit (.int .i64 x.on), .lit (.slice none 0 0), .lit (.slice none 0 0), .lit (.int .i64 0)]
def RMs : Rep MsD where
  z := 46
  is _ _ c x := c = msC x ∧ x.od.one = true
  len := fun ⟨h, _⟩ => by subst h; rfl
  one := fun ⟨h, h1⟩ v hv => by
    subst h
    unfold msC at hv
    simp only [List.mem_cons, List.not_mem_nil, or_false] at hv
    rcases hv with rfl | rfl | rfl | rfl | rfl | rfl | rfl | rfl | rfl | rfl | rfl | rfl | rfl | rfl | rfl | rfl | rfl | rfl | rfl | rfl | rfl | rfl | rfl | rfl | rfl | rfl | rfl | rfl | rfl | rfl | rfl | rfl | rfl | rfl | rfl | rfl | rfl | rfl | rfl | rfl | rfl | rfl | rfl | rfl | rfl | rfl
    all_goals first | exact h1 | rfl
  lift := fun h _ => h
theorem RMs_z : RMs.z = 46 := rfl
theorem RMs_is {F : Nat → Prop} {h : AH} {c : List AV} {x : MsD} : RMs.is F h c x ↔ c = msC x ∧ x.od.one = true := Iff.rfl
abbrev OwnM (n0 : Nat) (h : AH) (v : AV) (xs : List MsD) : Prop := OwnL RMs (fun _ => False) n0 h v 58 xs
def ms0 : MsD := ⟨0, 0, 0, 0, 0, 0, 0, 0, 0, 0, 0, 0, ⟨#[]⟩, .lit (.slice none 0 0), 0, 0⟩
theorem push_ms {n0 q : Nat} {h : AH} {v : AV} {xs : List MsD} {x : MsD} {cap : Cap} {e' : TypeId} (ho : OwnM n0 h v xs) (hn0 : n0 ≤ h.n) (A : h.at q = some (.cells (msC x) e')) (h1 : x.od.one = true) (hl : xs.length ≤ 100000) :
    ∃ s' h', appendA (tabOf Try.prog NT0) h 37 37 v (.sl q 0 1 cap) = some (s', h') ∧ OwnM n0 h' s' (xs ++ [x]) ∧ Ext n0 h h' := by
  obtain ⟨s', h', a, b, c, d⟩ := ho.snoc (T := tabOf Try.prog NT0) (t := 37) (tx := 37) (y := x) (cap := cap) (by kernel_rfl) (by kernel_rfl) (by kernel_rfl) (zv := .agg (msC ms0)) (by kernel_rfl) (by' := 552) (by kernel_rfl) (by kernel_rfl) (by decide) (by decide) A (RMs_is.2 ⟨rfl, h1⟩) (by omega) (by omega) hn0
  exact ⟨s', h', a, b, c⟩
def subM (c : CliD) (ep : Int) (k : Nat) : MsD := ⟨14, c.k, c.i, 1, k, c.boot, ep, 0, 0, 0, 0, 0, ⟨#[]⟩, .lit (.slice none 0 0), 0, 0⟩
def subsM (c : CliD) (ep : Int) (n : Nat) : List MsD := (List.range n).map (subM c ep)
theorem subsM_succ (c : CliD) (ep : Int) (n : Nat) : subsM c ep (n + 1) = subsM c ep n ++ [subM c ep n] := by unfold subsM; rw [List.range_succ, List.map_append]; rfl
theorem subsM_len (c : CliD) (ep : Int) (n : Nat) : (subsM c ep n).length = n := by unfold subsM; simp
theorem made_g {q : Nat} {H : AH} {c : CliD} {m : MapD} {vo vp vb now ans : AV} {num : Int} (h1 : H.at q = some (cliB c m vo vp vb num now ans)) (hb : 0 < c.boot) : WC Try.prog (tabOf Try.prog NT0) S0 15 [.ptr q 0] H fun r h' => r = .lit (.bool true) ∧ h' = H := by
  refine WC_fn Try.func15 rfl rfl ?_
  unfold cliB at h1
  have L := ld_at (T := tabOf Try.prog NT0) h1
  have l := at_lt h1
  simp only [core, zrA, zrS, zrM, zrL, zrE, reduceCtorEq, zrD, ziE, ziL, ziN, Try.ntmps15, L, l, hb]
theorem Boot_x {q : Nat} {H : AH} {c : CliD} {m : MapD} {vo vp vb now ans : AV} {num : Int} {N : Nat} (h1 : H.at q = some (cliB c m vo vp vb num now ans)) (hb : 0 < c.boot) (hN : c.mons = (N : Int)) (hN5 : N ≤ 5) :
    WC Try.prog (tabOf Try.prog NT0) S0 13 [.ptr q 0] H fun r h' => Ext H.n H h' ∧ OwnM H.n h' r (subsM c m.epoch N) := by
  refine WC_fn Try.func13 rfl rfl ?_
  simp only [core, zrA, zrS, zrM, zrL, zrE, reduceCtorEq, zrD, ziE, ziL, ziN, Try.ntmps13]
  refine (made_g h1 hb).mono ?_
  rintro _ _ ⟨rfl, q5⟩
  replace q5 := q5.symm
  subst q5
  have h1' := h1
  unfold cliB at h1
  have L := ld_at (T := tabOf Try.prog NT0) h1
  have l := at_lt h1
  simp only [core, zrA, zrS, zrM, zrL, zrE, reduceCtorEq, zrD, ziE, ziL, ziN, L, l, hN]
  refine WB_for N (fun i t h => Ext H.n H h ∧ ∃ v, OwnM H.n h v (subsM c m.epoch i) ∧ t.n = 36 ∧ t.get 0 = .ptr q 0 ∧ t.get 3 = v ∧ t.get 11 = .lit (.int .i64 N) ∧ t.get 12 = .lit (.int .i64 i)) ?_ ?_ _ _ ?_
  · rintro i t h hlt hc ⟨E, v, ho, hn, g0, g3, g11, g12⟩ ih
    have hwi := wrap_succ (n := N) hlt (by omega)
    have X1 := (E.2 _ (at_lt h1)).trans h1
    have L1 := ld_at (T := tabOf Try.prog NT0) X1
    have l1 := at_lt X1
    have o1 := ho.one
    have o2 := ho.isSl
    simp only [core, zrA, zrS, zrM, zrL, zrE, reduceCtorEq, zrD, ziE, ziL, ziN, hn, g0, g3, g11, g12, hlt, hc]
    rw [WB_regionD [0, 1, 2, 3, 4, 5, 6, 7, 8, 9, 10, 11, 12, 13, 14, 15, 16, 17, 18, 19] 1291123092072358859737309758981303490743590252135606772436787957647199966844560840329658776369567539617859453011407929344 (by kernel_rfl)]
    repeat ((with_reducible refine WDM_cons ?_; simp only [dw1]; try simp only [dw2, zrA, zrM, zrR, zrO, zrE]); simp only [core, zrA, zrS, zrM, zrL, zrE, reduceCtorEq, zrD, ziE, ziL, ziN, cored, hn, g0, g3, g11, g12, L1, l1, o1])
    have e5 : Ext h.n h (h.push (.cells (msC (subM c m.epoch i)) 58)) := (Ext.refl _ _).push _ (Nat.le_refl _)
    refine WOpD_app (push_ms (x := subM c m.epoch i) (ho.ext e5 (Nat.le_refl _)) (by rw [n_push]; have := E.1; omega) (at_push_n h _) rfl (by rw [subsM_len]; omega)) ?_
    rintro s6 h6 ⟨o6, e6⟩
    have u1 := o6.one
    have E6 : Ext H.n H h6 := (E.step e5).trans e6
    repeat (first | ((with_reducible refine WDM_cons ?_; simp only [dw1]; try simp only [dw2, zrA, zrM, zrR, zrO, zrE]); simp only [core, zrA, zrS, zrM, zrL, zrE, reduceCtorEq, zrD, ziE, ziL, ziN, cored, hn, g0, g3, g11, g12, u1, hwi]) | simp only [core, zrA, zrS, zrM, zrL, zrE, reduceCtorEq, zrD, ziE, ziL, ziN, cored, hn, g0, g3, g11, g12, u1, hwi])
    refine ih _ _ ⟨E6, s6, by rw [subsM_succ]; exact o6, ?_⟩
    simp only [core, zrA, zrS, zrM, zrL, zrE, reduceCtorEq, zrD, ziE, ziL, ziN, hn, g0, g3, g11, g12]
  · rintro t h hc ⟨E, v, ho, hn, g0, g3, g11, g12⟩
    have o1 := ho.one
    simp only [core, zrA, zrS, zrM, zrL, zrE, reduceCtorEq, zrD, ziE, ziL, ziN, hn, g0, g3, g11, g12, hc]
    exact ⟨E, ho⟩
  · refine ⟨Ext.refl _ _, .lit (.slice none 0 0), .nil, ?_⟩
    simp only [core, zrA, zrS, zrM, zrL, zrE, reduceCtorEq, zrD, ziE, ziL, ziN]
    (repeat' apply And.intro) <;> first | rfl | trivial
end Go.Proofs.Ytjkmmbfenhhjkaa.Ex
end

section

set_option linter.unusedSimpArgs false
set_option linter.unusedVariables false
set_option maxRecDepth 10000
set_option maxHeartbeats 4000000
namespace Go.Proofs.Ytjkmmbfenhhjkaa.Ex
open Go
structure AnsD where
  e : Int
  s : ByteArray
  v1 : Int
  v2 : Int
  d : AV
  l : AV
def anL (x : AnsD) : List AV := [.lit (.int .i64 x.e), .lit (.string x.s), .lit (.int .i64 x.v1), .lit (.int .i64 x.v2), x.d, x.l]
def an0 (e : Int) : AnsD := ⟨e, ⟨#[]⟩, 0, 0, .lit (.slice none 0 0), .lit (.slice none 0 0)⟩
section
variable {q : Nat} {H : AH} {c : CliD} {m : MapD} {vo vp vb now ans : AV} {num : Int}
theorem busy_no (h1 : H.at q = some (cliB c m vo vp vb num (.lit (.pointer none)) ans)) (hb : 0 < c.boot) : WC Try.prog (tabOf Try.prog NT0) S0 9 [.ptr q 0] H fun r h' => r = .lit (.bool false) ∧ h' = H := by
  refine WC_fn Try.func9 rfl rfl ?_
  simp only [core, zrA, zrS, zrM, zrL, zrE, reduceCtorEq, zrD, ziE, ziL, ziN, Try.ntmps9]
  refine (made_g h1 hb).mono ?_
  rintro _ _ ⟨rfl, q5⟩
  replace q5 := q5.symm
  subst q5
  have hpn : pur Try.prog (binOp .neq 79 (.pointer none) (.pointer none)) = some (.ok (.bool false)) := by kernel_rfl
  unfold cliB at h1
  have L := ld_at (T := tabOf Try.prog NT0) h1
  have l := at_lt h1
  simp only [core, zrA, zrS, zrM, zrL, zrE, reduceCtorEq, zrD, ziE, ziL, ziN, L, l, a_nilN, hpn]
theorem busy_yes {p : Nat} (h1 : H.at q = some (cliB c m vo vp vb num (.ptr p 0) ans)) (hb : 0 < c.boot) : WC Try.prog (tabOf Try.prog NT0) S0 9 [.ptr q 0] H fun r h' => r = .lit (.bool true) ∧ h' = H := by
  refine WC_fn Try.func9 rfl rfl ?_
  simp only [core, zrA, zrS, zrM, zrL, zrE, reduceCtorEq, zrD, ziE, ziL, ziN, Try.ntmps9]
  refine (made_g h1 hb).mono ?_
  rintro _ _ ⟨rfl, q5⟩
  replace q5 := q5.symm
  subst q5
  unfold cliB at h1
  have L := ld_at (T := tabOf Try.prog NT0) h1
  have l := at_lt h1
  simp only [core, zrA, zrS, zrM, zrL, zrE, reduceCtorEq, zrD, ziE, ziL, ziN, L, l]
theorem free_x (h1 : H.at q = some (cliB c m vo vp vb num (.lit (.pointer none)) (.lit (.pointer none)))) (hb : 0 < c.boot) : WC Try.prog (tabOf Try.prog NT0) S0 19 [.ptr q 0] H fun r h' => r = .lit (.int .i64 0) ∧ h' = H := by
  refine WC_fn Try.func19 rfl rfl ?_
  simp only [core, zrA, zrS, zrM, zrL, zrE, reduceCtorEq, zrD, ziE, ziL, ziN, Try.ntmps19]
  refine (made_g h1 hb).mono ?_
  rintro _ _ ⟨rfl, q5⟩
  replace q5 := q5.symm
  subst q5
  have hpn : pur Try.prog (binOp .neq 79 (.pointer none) (.pointer none)) = some (.ok (.bool false)) := by kernel_rfl
  have hpa : pur Try.prog (binOp .neq 80 (.pointer none) (.pointer none)) = some (.ok (.bool false)) := by kernel_rfl
  unfold cliB at h1
  have L := ld_at (T := tabOf Try.prog NT0) h1
  have l := at_lt h1
  simp only [core, zrA, zrS, zrM, zrL, zrE, reduceCtorEq, zrD, ziE, ziL, ziN, L, l, a_nilN, hpn, hpa]
theorem ended_x (x : AnsD) (h1 : H.at q = some (cliB c m vo vp vb num now ans)) (o1 : x.d.one = true) (o2 : x.l.one = true) :
    WC Try.prog (tabOf Try.prog NT0) S0 18 [.ptr q 0, .agg (anL x)] H fun r h' => Kq q H h' ∧ h'.at q = some (cliB c m vo vp vb num (.lit (.pointer none)) (.ptr H.n 0)) ∧ h'.at H.n = some (.cells (anL x) 63) := by
  refine WC_fn Try.func18 rfl rfl ?_
  obtain ⟨hA, hhA⟩ : ∃ hA, hA = H.push (.cells (anL x) 63) := ⟨_, rfl⟩
  have eA : Ext H.n H hA := hhA ▸ (Ext.refl _ _).push _ (Nat.le_refl _)
  have XA : hA.at H.n = some (.cells (anL x) 63) := hhA ▸ at_push_n _ _
  have YA := (eA.2 _ (at_lt h1)).trans h1
  have lq := at_lt h1
  unfold anL at hhA
  unfold cliB at YA
  have lY := at_lt YA
  unfold anL
  simp only [core, zrA, zrS, zrM, zrL, zrE, reduceCtorEq, zrD, ziE, ziL, ziN, Try.ntmps18, o1, o2, ← hhA, YA, lY]
  have kA : Kq q H hA := .ext eA
  refine ⟨.inl trivial, (kA.put _).put _, rfl, ?_⟩
  rw [at_put_ne _ (by omega), at_put_ne _ (by omega)]
  exact XA
theorem answer_no (h1 : H.at q = some (cliB c m vo vp vb num now (.lit (.pointer none)))) (hb : 0 < c.boot) : WC Try.prog (tabOf Try.prog NT0) S0 10 [.ptr q 0] H fun r h' => Ext H.n H h' ∧ r = .tup [.agg (anL (an0 0)), .lit (.bool false)] := by
  refine WC_fn Try.func10 rfl rfl ?_
  obtain ⟨hA, hhA⟩ : ∃ hA, hA = H.push (.cells (anL (an0 0)) 63) := ⟨_, rfl⟩
  have eA : Ext H.n H hA := hhA ▸ (Ext.refl _ _).push _ (Nat.le_refl _)
  have XA : hA.at H.n = some (.cells (anL (an0 0)) 63) := hhA ▸ at_push_n _ _
  have YA := (eA.2 _ (at_lt h1)).trans h1
  unfold anL an0 at hhA XA
  simp only [core, zrA, zrS, zrM, zrL, zrE, reduceCtorEq, zrD, ziE, ziL, ziN, Try.ntmps10, ← hhA]
  refine (made_g YA hb).mono ?_
  rintro _ _ ⟨rfl, q5⟩
  replace q5 := q5.symm
  subst q5
  have hpa : pur Try.prog (binOp .eql 80 (.pointer none) (.pointer none)) = some (.ok (.bool true)) := by kernel_rfl
  unfold cliB at YA
  have L := ld_at (T := tabOf Try.prog NT0) YA
  have l := at_lt YA
  have lX := at_lt XA
  simp only [core, zrA, zrS, zrM, zrL, zrE, reduceCtorEq, zrD, ziE, ziL, ziN, L, l, a_nilE, hpa, XA, lX]
  exact ⟨eA.put _ (Nat.le_refl _), rfl⟩
theorem answer_yes {a : Nat} (x : AnsD) (h1 : H.at q = some (cliB c m vo vp vb num now (.ptr a 0))) (h2 : H.at a = some (.cells (anL x) 63)) (hqa : q ≠ a) (o1 : x.d.one = true) (o2 : x.l.one = true) (hb : 0 < c.boot) :
    WC Try.prog (tabOf Try.prog NT0) S0 10 [.ptr q 0] H fun r h' => Kq q H h' ∧ h'.at q = some (cliB c m vo vp vb num now (.lit (.pointer none))) ∧ r = .tup [.agg (anL x), .lit (.bool true)] := by
  refine WC_fn Try.func10 rfl rfl ?_
  obtain ⟨hA, hhA⟩ : ∃ hA, hA = H.push (.cells (anL (an0 0)) 63) := ⟨_, rfl⟩
  have eA : Ext H.n H hA := hhA ▸ (Ext.refl _ _).push _ (Nat.le_refl _)
  have XA : hA.at H.n = some (.cells (anL (an0 0)) 63) := hhA ▸ at_push_n _ _
  have YA := (eA.2 _ (at_lt h1)).trans h1
  have ZA := (eA.2 _ (at_lt h2)).trans h2
  unfold anL an0 at hhA XA
  simp only [core, zrA, zrS, zrM, zrL, zrE, reduceCtorEq, zrD, ziE, ziL, ziN, Try.ntmps10, ← hhA]
  refine (made_g YA hb).mono ?_
  rintro _ _ ⟨rfl, q5⟩
  replace q5 := q5.symm
  subst q5
  unfold cliB at YA
  unfold anL at ZA
  have L := ld_at (T := tabOf Try.prog NT0) YA
  have l := at_lt YA
  have lX := at_lt XA
  have LZ := ld_at (T := tabOf Try.prog NT0) ZA
  have lZ := at_lt ZA
  have lq := at_lt h1
  obtain ⟨hB, hhB⟩ : ∃ hB, hB = hA.put q (.cells [.lit (.int .i64 c.k), .lit (.int .i64 c.i), .lit (.int .i64 c.boot), .lit (.int .i64 c.mons), .lit (.int .i64 c.tries), .lit (.int .i64 m.epoch), vo, vp, vb, .lit (.int .i64 m.leaf), .lit (.int .i64 num), now, .lit (.pointer none)] 82) := ⟨_, rfl⟩
  have nB : hB.n = hA.n := by rw [hhB, n_put]
  have XB : hB.at H.n = _ := (hhB ▸ at_put_ne _ (by omega)).trans XA
  have YB : hB.at q = some (cliB c m vo vp vb num now (.lit (.pointer none))) := hhB ▸ at_put_same _ l
  obtain ⟨hC, hhC⟩ : ∃ hC, hC = hB.push (.cells [.lit (.int .i64 x.e), .lit (.string x.s), .lit (.int .i64 x.v1), .lit (.int .i64 x.v2), x.d, x.l] 63) := ⟨_, rfl⟩
  have eC : Ext hB.n hB hC := hhC ▸ (Ext.refl _ _).push _ (Nat.le_refl _)
  have XC := (eC.2 _ (at_lt XB)).trans XB
  have YC := (eC.2 _ (at_lt YB)).trans YB
  have CC : hC.at hA.n = some (.cells [.lit (.int .i64 x.e), .lit (.string x.s), .lit (.int .i64 x.v1), .lit (.int .i64 x.v2), x.d, x.l] 63) := by rw [← nB]; exact hhC ▸ at_push_n _ _
  have lC := at_lt CC
  have LC := ld_at (T := tabOf Try.prog NT0) CC
  have lXC := at_lt XC
  simp only [core, zrA, zrS, zrM, zrL, zrE, reduceCtorEq, zrD, ziE, ziL, ziN, L, l, YA, XA, lX, LZ, lZ, o1, o2, ← hhB, ← hhC, nB, CC, LC, lC, XC, lXC]
  have kC : Kq q H hC := ((Kq.ext eA).trans (hhB ▸ (Kq.refl q hA).put _)).trans (.ext eC)
  refine ⟨⟨by rw [n_put]; exact kC.1, fun b hb hbq => ?_⟩, ?_, rfl⟩
  · rw [at_put_ne _ (by omega)]
    exact kC.2 b hb hbq
  · rw [at_put_ne _ (by omega)]
    exact YC
end
end Go.Proofs.Ytjkmmbfenhhjkaa.Ex
end

section

set_option linter.unusedSimpArgs false
set_option linter.unusedVariables false
set_option maxRecDepth 10000
set_option maxHeartbeats 4000000
namespace Go.Proofs.Ytjkmmbfenhhjkaa.Ex
open Go
def reqM (c : CliD) (o : OpD) (vd : AV) : MsD := ⟨30, c.k, c.i, 2, 0, c.boot, 1, 1, 0, c.boot, 1, o.k, o.s, vd, o.e, o.n⟩
theorem send_x {q p B : Nat} {H : AH} {c : CliD} {o : OpD} {tries : Int} {vo vp vb vd : AV} (z : Bz q p B H c o tries vo vp vb vd) (hs : o.s.size ≤ 140737488351232) (hg : goodB o.s.data.toList = true) (hd : o.d.length ≤ 4096) :
    WC Try.prog (tabOf Try.prog NT0) S0 17 [.ptr q 0] H fun r h' => Ext H.n H h' ∧ ∃ b vd', r = .sl b 0 1 (.kn 1) ∧ H.n ≤ b ∧ h'.at b = some (.cells (msC (reqM c o vd')) 58) ∧ vd'.one = true := by
  refine WC_fn Try.func17 rfl rfl ?_
  simp only [core, zrA, zrS, zrM, zrL, zrE, reduceCtorEq, zrD, ziE, ziL, ziN, Try.ntmps17]
  refine (target_x z hs hg).mono ?_
  rintro _ h1 ⟨e1, rfl⟩
  obtain ⟨hA, hhA⟩ : ∃ hA, hA = h1.push (.cells [.lit (.int .i64 1), .lit (.int .i64 0)] 42) := ⟨_, rfl⟩
  have eA : Ext h1.n h1 hA := hhA ▸ (Ext.refl _ _).push _ (Nat.le_refl _)
  have XA : hA.at h1.n = some (.cells [.lit (.int .i64 1), .lit (.int .i64 0)] 42) := hhA ▸ at_push_n _ _
  have E1 := e1.trans (eA.mono e1.1)
  have zA := z.ext E1
  have Y := zA.cq
  have P := zA.cp
  unfold cliB at Y
  unfold ocC at P
  have L := ld_at (T := tabOf Try.prog NT0) Y
  have l := at_lt Y
  have LX := ld_at (T := tabOf Try.prog NT0) XA
  have lX := at_lt XA
  have o1 := zA.m.o.one
  have o2 := zA.m.p.one
  have o3 := zA.m.b.one
  have i1 := zA.m.o.isSl
  have i2 := zA.m.p.isSl
  have i3 := zA.m.b.isSl
  simp only [core, zrA, zrS, zrM, zrL, zrE, reduceCtorEq, zrD, ziE, ziL, ziN, ← hhA]
  rw [WB_regionD [0, 1, 2, 3, 4, 5, 6, 7, 8, 9, 10] 1328091586345603859638970574589396992 (by kernel_rfl)]
  repeat ((with_reducible refine WDM_cons ?_; simp only [dw1]; try simp only [dw2, zrA, zrM, zrR, zrO, zrE]); simp only [core, zrA, zrS, zrM, zrL, zrE, reduceCtorEq, zrD, ziE, ziL, ziN, cored, L, l, LX, lX, o1, o2, o3])
  refine ⟨by simp only [same_sl, i1, i2, i3, Bool.and_self], ?_⟩
  refine (prim_x zA.m).mono ?_
  rintro _ h2 ⟨e2, rfl⟩
  have zB := zA.ext e2
  have Y2 := zB.cq
  have P2 := zB.cp
  unfold cliB at Y2
  unfold ocC at P2
  have L2 := ld_at (T := tabOf Try.prog NT0) Y2
  have l2 := at_lt Y2
  have LP2 := ld_at (T := tabOf Try.prog NT0) P2
  have lP2 := at_lt P2
  have X2 := (e2.2 _ lX).trans XA
  have d1 := zB.d.one
  have d2 := zB.d.isSl
  have d3 := zB.d.lenD
  obtain ⟨hB, hhB⟩ : ∃ hB, hB = h2.push (.cells [.lit (.int .i64 o.k), .lit (.string o.s), vd, .lit (.int .i64 o.e), .lit (.int .i64 o.n)] 30) := ⟨_, rfl⟩
  have eB : Ext h2.n h2 hB := hhB ▸ (Ext.refl _ _).push _ (Nat.le_refl _)
  have OB : hB.at h2.n = some (.cells [.lit (.int .i64 o.k), .lit (.string o.s), vd, .lit (.int .i64 o.e), .lit (.int .i64 o.n)] 30) := hhB ▸ at_push_n _ _
  have nB : hB.n = h2.n + 1 := by rw [hhB, n_push]
  have LOB := ld_at (T := tabOf Try.prog NT0) OB
  have lOB := at_lt OB
  have E2 := E1.trans (e2.mono E1.1)
  have EB := E2.trans (eB.mono E2.1)
  repeat (first | ((with_reducible refine WDM_cons ?_; simp only [dw1]; try simp only [dw2, zrA, zrM, zrR, zrO, zrE]); simp only [core, zrA, zrS, zrM, zrL, zrE, reduceCtorEq, zrD, ziE, ziL, ziN, cored, L2, l2, LP2, lP2, d1, ← hhB, LOB, lOB]) | simp only [core, zrA, zrS, zrM, zrL, zrE, reduceCtorEq, zrD, ziE, ziL, ziN, cored, L2, l2, LP2, lP2, d1, ← hhB, LOB, lOB])
  refine WOp_app (ownB_app (n0 := hB.n) .nil (zB.d.ext eB (Nat.le_refl _)) (by simp only [List.length_nil]; omega) (Nat.le_refl _)) ?_
  rintro s3 h3 ⟨ob, e3⟩
  have u1 := ob.one
  have O3 := (e3.2 _ lOB).trans OB
  have lO3 := at_lt O3
  have z3 := (zB.ext eB).ext e3
  have X3 := (e3.2 _ (Nat.lt_of_lt_of_le (at_lt X2) eB.1)).trans ((eB.2 _ (at_lt X2)).trans X2)
  have E3 := EB.trans (e3.mono EB.1)
  obtain ⟨h4, hh4⟩ : ∃ h4, h4 = h3.put h2.n (.cells [.lit (.int .i64 o.k), .lit (.string o.s), s3, .lit (.int .i64 o.e), .lit (.int .i64 o.n)] 30) := ⟨_, rfl⟩
  have E4 : Ext H.n H h4 := hh4 ▸ E3.put _ (by have := E2.1; omega)
  have O4 : h4.at h2.n = some (.cells [.lit (.int .i64 o.k), .lit (.string o.s), s3, .lit (.int .i64 o.e), .lit (.int .i64 o.n)] 30) := hh4 ▸ at_put_same _ lO3
  have lx2 := at_lt X2
  have Y4 : h4.at q = _ := (hh4 ▸ at_put_ne _ (by omega)).trans z3.cq
  have P4 : h4.at p = _ := (hh4 ▸ at_put_ne _ (by omega)).trans z3.cp
  have X4 : h4.at h1.n = _ := (hh4 ▸ at_put_ne _ (by omega)).trans X3
  unfold cliB at Y4
  unfold ocC at P4
  have L4 := ld_at (T := tabOf Try.prog NT0) Y4
  have l4 := at_lt Y4
  have LP4 := ld_at (T := tabOf Try.prog NT0) P4
  have lP4 := at_lt P4
  have LO4 := ld_at (T := tabOf Try.prog NT0) O4
  have lO4 := at_lt O4
  have LX4 := ld_at (T := tabOf Try.prog NT0) X4
  have lX4 := at_lt X4
  simp only [core, zrA, zrS, zrM, zrL, zrE, reduceCtorEq, zrD, ziE, ziL, ziN, O3, lO3, u1, ← hh4]
  rw [WB_regionD [0, 1, 2, 3, 4, 5, 6, 7, 8, 9, 10, 11, 12, 13, 14, 15, 16, 17, 18, 19, 20, 21, 22, 23, 24, 25, 26, 27, 28, 29, 30] 9745314004592975875005312751096233086979521701426991528396730372618967641403356915496044066447404285072783001801544532901691562830796869107735760221019839673371941945564806819146434222776717213983288564244437710744191306367150766056014162151141394272125563789082522510212820356854750117888 (by kernel_rfl)]
  repeat ((with_reducible refine WDM_cons ?_; simp only [dw1]; try simp only [dw2, zrA, zrM, zrR, zrO, zrE]); simp only [core, zrA, zrS, zrM, zrL, zrE, reduceCtorEq, zrD, ziE, ziL, ziN, cored, L4, l4, LP4, lP4, LO4, lO4, LX4, lX4, u1])
  have u2 := ob.isSl
  refine ⟨by simp only [same_sl, u2, Bool.and_self], E4.push _ E4.1, h4.n, s3, rfl, E4.1, at_push_n _ _, u1⟩
/-- All blocks but two are as they were. -/
def K2 (q p : Nat) (H h : AH) : Prop := H.n ≤ h.n ∧ ∀ b, b < H.n → b ≠ q → b ≠ p → h.at b = H.at b
theorem K2.of {q p : Nat} {H h : AH} (k : Kq q H h) : K2 q p H h := ⟨k.1, fun b hb hq _ => k.2 b hb hq⟩
theorem K2.ext {q p : Nat} {H h : AH} (e : Ext H.n H h) : K2 q p H h := .of (.ext e)
theorem K2.trans {q p : Nat} {H h h' : AH} (a : K2 q p H h) (b : K2 q p h h') : K2 q p H h' := ⟨Nat.le_trans a.1 b.1, fun x hx hq hp => (b.2 x (Nat.lt_of_lt_of_le hx a.1) hq hp).trans (a.2 x hx hq hp)⟩
theorem K2.putq {q p : Nat} {H h : AH} (a : K2 q p H h) (x : AB) : K2 q p H (h.put q x) := ⟨by rw [n_put]; exact a.1, fun b hb hq hp => (at_put_ne _ (Ne.symm hq)).trans (a.2 b hb hq hp)⟩
theorem K2.putp {q p : Nat} {H h : AH} (a : K2 q p H h) (x : AB) : K2 q p H (h.put p x) := ⟨by rw [n_put]; exact a.1, fun b hb hq hp => (at_put_ne _ (Ne.symm hp)).trans (a.2 b hb hq hp)⟩
theorem K2.sl {q p : Nat} {α : Type} {R : Rep α} {F : Nat → Prop} {H h : AH} {v : AV} {xs : List α} (a : K2 q p H h) (hs : IsSl R F H v xs) (hF : ∀ b, F b → b ≠ q ∧ b ≠ p) : IsSl R F h v xs := hs.lift fun b hb hlt => ⟨a.2 b hlt (hF b hb).1 (hF b hb).2, hb⟩
theorem begin_x {q p B : Nat} {H : AH} {c : CliD} {o : OpD} {vo vp vb vd : AV} (qB : q < B) (Bp : B ≤ p) (cq : H.at q = some (cliB c M1 vo vp vb 0 (.lit (.pointer none)) (.lit (.pointer none)))) (hm : MpAt (fun b => q < b ∧ b < B) H M1 vo vp vb) (cp : H.at p = some (ocC o vd 0 0))
    (hd : IsSl RByte (fun b => b ≠ q ∧ b ≠ p) H vd o.d) (hs : o.s.size ≤ 140737488351232) (hg : goodB o.s.data.toList = true) (hdl : o.d.length ≤ 4096) :
    WC Try.prog (tabOf Try.prog NT0) S0 22 [.ptr q 0, .ptr p 0] H fun r h' => K2 q p H h' ∧ Bz q p B h' c o 0 vo vp vb vd ∧ ∃ b vd', r = .sl b 0 1 (.kn 1) ∧ H.n ≤ b ∧ h'.at b = some (.cells (msC (reqM c o vd')) 58) ∧ vd'.one = true := by
  refine WC_fn Try.func22 rfl rfl ?_
  have h1 := cq
  have h2 := cp
  unfold cliB at h1
  unfold ocC at h2
  have L := ld_at (T := tabOf Try.prog NT0) h1
  have l := at_lt h1
  have l2 := at_lt h2
  simp only [core, zrA, zrS, zrM, zrL, zrE, reduceCtorEq, zrD, ziE, ziL, ziN, Try.ntmps22, L, l]
  obtain ⟨hA, hhA⟩ : ∃ hA, hA = H.put q (cliB c M1 vo vp vb 1 (.lit (.pointer none)) (.lit (.pointer none))) := ⟨_, rfl⟩
  refine add_s (b := q) (off := 10) (x := 0) (y := 1) (by unfold getB; rw [h1]) rfl rfl ?_
  have hw : IntKind.i64.wrap (0 + 1) = 1 := rfl
  rw [hw]
  have YA : hA.at q = _ := hhA ▸ at_put_same _ l
  have PA : hA.at p = _ := (hhA ▸ at_put_ne _ (by omega)).trans cp
  have hhA' := hhA
  unfold cliB at hhA' YA
  unfold ocC at PA
  have lYA := at_lt YA
  have lPA := at_lt PA
  obtain ⟨hB, hhB⟩ : ∃ hB, hB = hA.put p (.cells [.lit (.int .i64 1), .lit (.int .i64 0), .lit (.int .i64 0), .lit (.bool false), .lit (.int .i64 o.k), .lit (.string o.s), vd, .lit (.int .i64 o.e), .lit (.int .i64 o.n), .lit (.int .i64 1), .lit (.int .i64 0)] 89) := ⟨_, rfl⟩
  have YB : hB.at q = _ := (hhB ▸ at_put_ne _ (by omega)).trans YA
  have lYB := at_lt YB
  obtain ⟨hC, hhC⟩ : ∃ hC, hC = hB.put q (.cells [.lit (.int .i64 c.k), .lit (.int .i64 c.i), .lit (.int .i64 c.boot), .lit (.int .i64 c.mons), .lit (.int .i64 c.tries), .lit (.int .i64 M1.epoch), vo, vp, vb, .lit (.int .i64 M1.leaf), .lit (.int .i64 1), .ptr p 0, .lit (.pointer none)] 82) := ⟨_, rfl⟩
  simp only [core, zrA, zrS, zrM, zrL, zrE, reduceCtorEq, zrD, ziE, ziL, ziN, List.set, ← hhA', YA, lYA, PA, lPA, ← hhB, YB, lYB, ← hhC]
  have lB := at_lt cq
  have PB : hB.at p = some (ocC o vd 1 0) := hhB ▸ at_put_same _ lPA
  have PC : hC.at p = some (ocC o vd 1 0) := (hhC ▸ at_put_ne _ (by omega)).trans PB
  have YC : hC.at q = some (cliB c M1 vo vp vb 1 (.ptr p 0) (.lit (.pointer none))) := hhC ▸ at_put_same _ lYB
  have kC : K2 q p H hC := hhC ▸ (hhB ▸ (hhA ▸ (K2.ext (Ext.refl _ _)).putq _).putp _).putq _
  have zC : Bz q p B hC c o 0 vo vp vb vd := ⟨qB, Bp, YC, ⟨hm.o.lift fun b hb hlt => ⟨kC.2 b hlt (by omega) (by omega), hb⟩, hm.p.lift fun b hb hlt => ⟨kC.2 b hlt (by omega) (by omega), hb⟩, hm.b.lift fun b hb hlt => ⟨kC.2 b hlt (by omega) (by omega), hb⟩⟩, PC, kC.sl hd fun b hb => hb⟩
  have nC := kC.1
  refine (send_x zC hs hg hdl).mono ?_
  rintro _ h4 ⟨e4, b, vd', rfl, hb, h5, h6⟩
  simp only [core, zrA, zrS, zrM, zrL, zrE, reduceCtorEq, zrD, ziE, ziL, ziN]
  exact ⟨kC.trans (.ext e4), zC.ext e4, b, vd', rfl, Nat.le_trans nC hb, h5, h6⟩
end Go.Proofs.Ytjkmmbfenhhjkaa.Ex
end

section

set_option linter.unusedSimpArgs false
set_option linter.unusedVariables false
set_option maxRecDepth 10000
set_option maxHeartbeats 4000000
namespace Go.Proofs.Ytjkmmbfenhhjkaa.Ex
open Go
theorem Begin_x {q : Nat} {H : AH} {c : CliD} {o : OpD} {vo vp vb vd : AV} (cq : H.at q = some (cliB c M1 vo vp vb 0 (.lit (.pointer none)) (.lit (.pointer none)))) (hm : MpAt (fun b => q < b) H M1 vo vp vb) (hb : 0 < c.boot)
    (hd : IsSl RByte (fun b => b ≠ q) H vd o.d) (hs : o.s.size ≤ 140737488351232) :
    WC Try.prog (tabOf Try.prog NT0) S0 8 [.ptr q 0, .lit (.int .i64 1), .agg (opL o vd)] H fun r h' =>
      (∃ e : Int, (e != 0) = true ∧ r = .tup [.lit (.slice none 0 0), .lit (.int .i64 e)] ∧ Ext H.n H h') ∨
      (∃ p B b vd1 vd2, Kq q H h' ∧ Bz q p B h' c o 0 vo vp vb vd1 ∧ H.n ≤ p ∧ p < b ∧ goodB o.s.data.toList = true ∧ o.d.length ≤ 4096 ∧ r = .tup [.sl b 0 1 (.kn 1), .lit (.int .i64 0)] ∧ h'.at b = some (.cells (msC (reqM c o vd2)) 58) ∧ vd2.one = true) := by
  refine WC_fn Try.func8 rfl rfl ?_
  have v1 := hd.one
  obtain ⟨hA, hhA⟩ : ∃ hA, hA = H.push (.cells (opL o vd) 30) := ⟨_, rfl⟩
  have eA : Ext H.n H hA := hhA ▸ (Ext.refl _ _).push _ (Nat.le_refl _)
  have XA : hA.at H.n = some (.cells (opL o vd) 30) := hhA ▸ at_push_n _ _
  have nA : hA.n = H.n + 1 := by rw [hhA, n_push]
  have lq := at_lt cq
  have CA := (eA.2 _ lq).trans cq
  have mA := hm.ext eA (Nat.le_refl _)
  have dA := hd.ext eA (Nat.le_refl _)
  unfold opL at XA hhA
  unfold opL
  have LXA := ld_at (T := tabOf Try.prog NT0) XA
  have lXA := at_lt XA
  simp only [core, zrA, zrS, zrM, zrL, zrE, reduceCtorEq, zrD, ziE, ziL, ziN, Try.ntmps8, v1, ← hhA]
  refine (free_x CA hb).mono ?_
  rintro _ _ ⟨rfl, q5⟩
  replace q5 := q5.symm
  subst q5
  have Y := CA
  unfold cliB at Y
  have L := ld_at (T := tabOf Try.prog NT0) Y
  have lY := at_lt Y
  have o1 := mA.o.one
  have o2 := mA.p.one
  have o3 := mA.b.one
  have ok := st_M1.ok (by decide)
  have key : ((o.k == 1) = true) ∨ ((o.k == 1) = false ∧ (o.k == 2) = true) ∨ ((o.k == 1) = false ∧ (o.k == 2) = false ∧ (o.k == 3) = true) ∨ ((o.k == 1) = false ∧ (o.k == 2) = false ∧ (o.k == 3) = false ∧ (o.k == 4) = true) ∨ ((o.k == 1) = false ∧ (o.k == 2) = false ∧ (o.k == 3) = false ∧ (o.k == 4) = false) := by
    cases (o.k == 1) <;> cases (o.k == 2) <;> cases (o.k == 3) <;> cases (o.k == 4) <;> simp
  have e00 : ((0 : Int) != 0) = false := rfl
  rcases key with k1 | ⟨k1, k2⟩ | ⟨k1, k2, k3⟩ | ⟨k1, k2, k3, k4⟩ | ⟨k1, k2, k3, k4⟩
  rotate_right
  · simp only [core, zrA, zrS, zrM, zrL, zrE, reduceCtorEq, zrD, ziE, ziL, ziN, LXA, lXA, k1, k2, k3, k4, e00]
    exact .inl ⟨22, rfl, rfl, eA⟩
  all_goals
    try simp only [core, zrA, zrS, zrM, zrL, zrE, reduceCtorEq, zrD, ziE, ziL, ziN, LXA, lXA, L, lY, o1, o2, o3, k1, e00]
    try simp only [core, zrA, zrS, zrM, zrL, zrE, reduceCtorEq, zrD, ziE, ziL, ziN, LXA, lXA, L, lY, o1, o2, o3, k1, k2, e00]
    try simp only [core, zrA, zrS, zrM, zrL, zrE, reduceCtorEq, zrD, ziE, ziL, ziN, LXA, lXA, L, lY, o1, o2, o3, k1, k2, k3, e00]
    try simp only [core, zrA, zrS, zrM, zrL, zrE, reduceCtorEq, zrD, ziE, ziL, ziN, LXA, lXA, L, lY, o1, o2, o3, k1, k2, k3, k4, e00]
    refine (pool_x 1 mA ok.2.1.1).mono ?_
    rintro _ h2 ⟨e2, rfl⟩
    have hpl : poolG M1 1 = ⟨1, 1, 1, 1⟩ := rfl
    have hps : (poolF M1 1).isSome = true := rfl
    rw [hpl, hps]
    unfold poolV
    obtain ⟨h3, hh3⟩ : ∃ h3, h3 = h2.push (.cells [.lit (.int .i64 1), .lit (.int .i64 1), .lit (.int .i64 1), .lit (.int .i64 1)] 95) := ⟨_, rfl⟩
    have e3 : Ext h2.n h2 h3 := hh3 ▸ (Ext.refl _ _).push _ (Nat.le_refl _)
    have E3a := e2.trans (e3.mono e2.1)
    have E3 := eA.trans (E3a.mono eA.1)
    have X3 := (E3a.2 _ lXA).trans XA
    have LX3 := ld_at (T := tabOf Try.prog NT0) X3
    have lX3 := at_lt X3
    simp only [core, zrA, zrS, zrM, zrL, zrE, reduceCtorEq, zrD, ziE, ziL, ziN, ← hh3, LX3, lX3]
    refine good_s hs ?_
    cases hg : goodB o.s.data.toList
    · simp only [core, zrA, zrS, zrM, zrL, zrE, reduceCtorEq, zrD, ziE, ziL, ziN]
      exact .inl ⟨36, rfl, rfl, E3⟩
    have d3 := dA.ext E3a (Nat.le_refl _)
    have u1 := d3.isSl
    have u2 := d3.lenD
    have u3 := d3.one
    by_cases hdl : (4096 : Int) < (o.d.length : Int)
    · simp only [core, zrA, zrS, zrM, zrL, zrE, reduceCtorEq, zrD, ziE, ziL, ziN, LX3, lX3, u1, u2, u3, hdl]
      exact .inl ⟨27, rfl, rfl, E3⟩
    simp only [core, zrA, zrS, zrM, zrL, zrE, reduceCtorEq, zrD, ziE, ziL, ziN, LX3, lX3, u1, u2, u3, hdl]
    refine WOp_app (ownB_app (n0 := h3.n) .nil d3 (by simp only [List.length_nil]; omega) (Nat.le_refl _)) ?_
    rintro s4 h4 ⟨ob, e4⟩
    have w1 := ob.one
    have w2 := ob.isSl
    have X4 := (e4.2 _ lX3).trans X3
    have lX4 := at_lt X4
    have E4a := E3a.trans (e4.mono E3a.1)
    have E4 := eA.trans (E4a.mono eA.1)
    obtain ⟨h5, hh5⟩ : ∃ h5, h5 = h4.put H.n (.cells [.lit (.int .i64 o.k), .lit (.string o.s), s4, .lit (.int .i64 o.e), .lit (.int .i64 o.n)] 30) := ⟨_, rfl⟩
    have E5 : Ext H.n H h5 := hh5 ▸ E4.put _ (Nat.le_refl _)
    have X5 : h5.at H.n = some (.cells [.lit (.int .i64 o.k), .lit (.string o.s), s4, .lit (.int .i64 o.e), .lit (.int .i64 o.n)] 30) := hh5 ▸ at_put_same _ lX4
    have n5 : h5.n = h4.n := by rw [hh5, n_put]
    have LX5 := ld_at (T := tabOf Try.prog NT0) X5
    have lX5 := at_lt X5
    obtain ⟨h6, hh6⟩ : ∃ h6, h6 = h5.push (.cells [.lit (.int .i64 1), .lit (.int .i64 0), .lit (.int .i64 0), .lit (.bool false), .lit (.int .i64 o.k), .lit (.string o.s), s4, .lit (.int .i64 o.e), .lit (.int .i64 o.n), .lit (.int .i64 0), .lit (.int .i64 0)] 89) := ⟨_, rfl⟩
    have e6 : Ext h5.n h5 h6 := hh6 ▸ (Ext.refl _ _).push _ (Nat.le_refl _)
    have E6 := E5.trans (e6.mono E5.1)
    have P6 : h6.at h5.n = some (ocC o s4 0 0) := hh6 ▸ at_push_n _ _
    simp only [core, zrA, zrS, zrM, zrL, zrE, reduceCtorEq, zrD, ziE, ziL, ziN, X4, lX4, w1, ← hh5, X5, LX5, lX5, ← hh6]
    have Y6 := (E6.2 _ lq).trans cq
    have m6 : MpAt (fun b => q < b ∧ b < H.n) h6 M1 vo vp vb := ⟨hm.o.lift fun b hb hlt => ⟨E6.2 b hlt, hb, hlt⟩, hm.p.lift fun b hb hlt => ⟨E6.2 b hlt, hb, hlt⟩, hm.b.lift fun b hb hlt => ⟨E6.2 b hlt, hb, hlt⟩⟩
    have hn3 := E3.1
    have hn4 := e4.1
    have d6 : IsSl RByte (fun b => b ≠ q ∧ b ≠ h5.n) h6 s4 o.d := by
      have := ob.toSl (F := fun b => h3.n ≤ b) (fun _ hh => hh.elim) (fun _ hh => hh)
      rw [List.nil_append] at this
      exact this.lift fun b hb hlt => ⟨(e6.2 b (by omega)).trans (hh5 ▸ at_put_ne _ (by omega)), by omega, by omega⟩
    have l6 := at_lt P6
    refine (begin_x (B := H.n) lq (by omega) Y6 m6 P6 d6 hs hg (by omega)).mono ?_
    rintro _ h7 ⟨k7, z7, b, vd', rfl, hb7, x7, x8⟩
    have n6 := E6.1
    simp only [core, zrA, zrS, zrM, zrL, zrE, reduceCtorEq, zrD, ziE, ziL, ziN]
    exact .inr ⟨h5.n, H.n, b, s4, vd', ⟨Nat.le_trans n6 k7.1, fun b hb hbq => (k7.2 b (by omega) hbq (by omega)).trans (E6.2 b hb)⟩, z7, by omega, by omega, by omega, rfl, x7, x8⟩
end Go.Proofs.Ytjkmmbfenhhjkaa.Ex
end

section

set_option linter.unusedSimpArgs false
set_option linter.unusedVariables false
set_option maxRecDepth 10000
set_option maxHeartbeats 4000000
namespace Go.Proofs.Ytjkmmbfenhhjkaa.Ex
open Go
theorem Bz.tick {q p B : Nat} {H h : AH} {c : CliD} {o : OpD} {i j : Int} {vo vp vb vd : AV} (z : Bz q p B H c o i vo vp vb vd) (k : K2 q p H h) (hq : h.at q = H.at q) (hp : h.at p = some (ocC o vd 1 j)) : Bz q p B h c o j vo vp vb vd := by
  have qB := z.qB
  have Bp := z.Bp
  exact ⟨qB, Bp, hq.trans z.cq, ⟨z.m.o.lift fun b hb hlt => ⟨k.2 b hlt (by omega) (by omega), hb⟩, z.m.p.lift fun b hb hlt => ⟨k.2 b hlt (by omega) (by omega), hb⟩, z.m.b.lift fun b hb hlt => ⟨k.2 b hlt (by omega) (by omega), hb⟩⟩, hp, k.sl z.d fun b hb => hb⟩
/-- Behind an answer. -/
def EndA (q : Nat) (h : AH) (c : CliD) (vo vp vb : AV) (x : AnsD) : Prop := ∃ a, h.at q = some (cliB c M1 vo vp vb 1 (.lit (.pointer none)) (.ptr a 0)) ∧ q ≠ a ∧ h.at a = some (.cells (anL x) 63)
/-- A message that a tick may send. -/
def Tk1 (c : CliD) (x : MsD) : Prop := x.kind = 14 ∨ (x.num = 1 ∧ x.client = c.boot)
theorem Tick_x {q p B N : Nat} {H : AH} {c : CliD} {o : OpD} {i : Int} {vo vp vb vd : AV} (z : Bz q p B H c o i vo vp vb vd) (hs : o.s.size ≤ 140737488351232) (hg : goodB o.s.data.toList = true) (hd : o.d.length ≤ 4096)
    (hb : 0 < c.boot) (hN : c.mons = (N : Int)) (hN5 : N ≤ 5) (hi0 : 0 ≤ i) (hi : i ≤ 1000) :
    WC Try.prog (tabOf Try.prog NT0) S0 11 [.ptr q 0] H fun r h' => K2 q p H h' ∧
      ((c.tries < i + 1 ∧ EndA q h' c vo vp vb (an0 110)) ∨ (¬ c.tries < i + 1 ∧ Bz q p B h' c o (i + 1) vo vp vb vd)) ∧ ∃ xs, IsSl RMs (fun b => True) h' r xs ∧ xs.length ≤ 100 ∧ ∀ x ∈ xs, Tk1 c x := by
  refine WC_fn Try.func11 rfl rfl ?_
  simp only [core, zrA, zrS, zrM, zrL, zrE, reduceCtorEq, zrD, ziE, ziL, ziN, Try.ntmps11]
  refine (made_g z.cq hb).mono ?_
  rintro _ _ ⟨rfl, q5⟩
  replace q5 := q5.symm
  subst q5
  simp only [core, zrA, zrS, zrM, zrL, zrE, reduceCtorEq, zrD, ziE, ziL, ziN]
  refine (Boot_x z.cq hb hN hN5).mono ?_
  rintro v1 h1 ⟨e1, ow⟩
  have r1 := ow.one
  have z1 := z.ext e1
  have Y := z1.cq
  have P := z1.cp
  unfold cliB at Y
  unfold ocC at P
  have L := ld_at (T := tabOf Try.prog NT0) Y
  have l := at_lt Y
  have LP := ld_at (T := tabOf Try.prog NT0) P
  have lP := at_lt P
  have lq0 := at_lt z.cq
  have lp0 := at_lt z.cp
  have qB := z.qB
  have Bp := z.Bp
  obtain ⟨h2, hh2⟩ : ∃ h2, h2 = h1.put p (.cells [.lit (.int .i64 1), .lit (.int .i64 0), .lit (.int .i64 0), .lit (.bool false), .lit (.int .i64 o.k), .lit (.string o.s), vd, .lit (.int .i64 o.e), .lit (.int .i64 o.n), .lit (.int .i64 1), .lit (.int .i64 (i + 1))] 89) := ⟨_, rfl⟩
  have hw : IntKind.i64.wrap (i + 1) = i + 1 := wrap_in (by omega) (by omega)
  have n2 : h2.n = h1.n := by rw [hh2, n_put]
  have P2 : h2.at p = some (ocC o vd 1 (i + 1)) := hh2 ▸ at_put_same _ lP
  have Q2 : h2.at q = h1.at q := hh2 ▸ at_put_ne _ (by omega)
  have k2' : K2 q p h1 h2 := hh2 ▸ (K2.ext (Ext.refl _ _)).putp _
  have z2 := z1.tick k2' Q2 P2
  have k2 : K2 q p H h2 := (K2.ext e1).trans k2'
  have ow2 : OwnM H.n h2 v1 (subsM c M1.epoch N) := hh2 ▸ ow.put lp0 _
  have Y2 := z2.cq
  unfold cliB at Y2
  have L2 := ld_at (T := tabOf Try.prog NT0) Y2
  have l2 := at_lt Y2
  have PP2 := P2
  unfold ocC at PP2
  have LP2 := ld_at (T := tabOf Try.prog NT0) PP2
  have lP2 := at_lt PP2
  have hsu : ∀ x ∈ subsM c M1.epoch N, Tk1 c x := fun x hx => by
    unfold subsM at hx
    obtain ⟨k, -, rfl⟩ := List.mem_map.1 hx
    exact .inl rfl
  simp only [core, zrA, zrS, zrM, zrL, zrE, reduceCtorEq, zrD, ziE, ziL, ziN, L, l, LP, lP, P, r1, hw, ← hh2]
  rw [WB_regionD [0, 1, 2, 3, 4, 5, 6, 7, 8, 9, 10, 11] 11146119194304065649909800706885205375324160 (by kernel_rfl)]
  by_cases hlt : c.tries < i + 1
  · repeat ((with_reducible refine WDM_cons ?_; simp only [dw1]; try simp only [dw2, zrA, zrM, zrR, zrO, zrE]); simp only [core, zrA, zrS, zrM, zrL, zrE, reduceCtorEq, zrD, ziE, ziL, ziN, cored, L2, l2, LP2, lP2, hlt])
    refine (ended_x (an0 110) z2.cq rfl rfl).mono ?_
    rintro _ h3 ⟨k3, Y3, X3⟩
    simp only [core, zrA, zrS, zrM, zrL, zrE, reduceCtorEq, zrD, ziE, ziL, ziN, r1]
    refine ⟨k2.trans (.of k3), .inl ⟨_, Y3, by omega, X3⟩, subsM c M1.epoch N, ?_, by rw [subsM_len]; omega, hsu⟩
    exact (k3.sl (ow2.toSl (F := fun b => H.n ≤ b) (fun _ hh => hh.elim) (fun _ hh => hh)) (fun b hb => by omega)).lift fun b hb hlt => ⟨rfl, trivial⟩
  · repeat ((with_reducible refine WDM_cons ?_; simp only [dw1]; try simp only [dw2, zrA, zrM, zrR, zrO, zrE]); simp only [core, zrA, zrS, zrM, zrL, zrE, reduceCtorEq, zrD, ziE, ziL, ziN, cored, L2, l2, LP2, lP2, hlt])
    refine (send_x z2 hs hg hd).mono ?_
    rintro _ h3 ⟨e3, b, vd', rfl, hb3, X3, o3⟩
    simp only [core, zrA, zrS, zrM, zrL, zrE, reduceCtorEq, zrD, ziE, ziL, ziN]
    have n1 := e1.1
    have n3 := e3.1
    refine WOp_app (push_ms (x := reqM c o vd') (ow2.ext e3 (Nat.le_refl _)) (by omega) X3 o3 (by rw [subsM_len]; omega)) ?_
    rintro s4 h4 ⟨o4, e4⟩
    have r4 := o4.one
    simp only [core, zrA, zrS, zrM, zrL, zrE, reduceCtorEq, zrD, ziE, ziL, ziN, r4]
    have k3 := k2.trans (.ext e3)
    have k4 : K2 q p H h4 := ⟨Nat.le_trans k3.1 e4.1, fun b hb hq hp => (e4.2 b hb).trans (k3.2 b hb hq hp)⟩
    refine ⟨k4, .inr (z.tick k4 ((e4.2 q lq0).trans ((e3.2 q (by omega)).trans (Q2.trans (e1.2 q lq0)))) ((e4.2 p lp0).trans ((e3.2 p (by omega)).trans P2))), _, o4.toSl (fun _ hh => hh.elim) (fun _ _ => trivial), by rw [List.length_append, subsM_len]; simp; omega, fun x hx => ?_⟩
    rcases List.mem_append.1 hx with hx | hx
    · exact hsu x hx
    · obtain rfl := List.mem_singleton.1 hx
      exact .inr ⟨rfl, rfl⟩
end Go.Proofs.Ytjkmmbfenhhjkaa.Ex
end

section

set_option linter.unusedSimpArgs false
set_option linter.unusedVariables false
set_option maxRecDepth 10000
set_option maxHeartbeats 4000000
namespace Go.Proofs.Ytjkmmbfenhhjkaa.Ex
open Go
/-- The reply of the law. -/
def rplL (k i boot : Int) : List AV :=
  [.lit (.int .i64 31), .lit (.int .i64 2), .lit (.int .i64 0), .lit (.int .i64 k), .lit (.int .i64 i), .lit (.int .i64 0), .lit (.int .i64 0), .lit (.int .i64 0), .lit (.int .i64 0), .lit (.int .i64 boot), .lit (.int .i64 1), .lit (.int .i64 0), .lit (.slice none 0 0), .lit (.slice none 0 0), .lit (.slice none 0 0),
   .lit (.int .i64 0), .lit (.int .i64 0), .lit (.int .i64 0), .lit (.int .i64 0), .lit (.int .i64 0), .lit (.int .i64 0), .lit (.int .i64 0), .lit (.int .i64 0), .lit (.int .i64 0), .lit (.slice none 0 0), .lit (.slice none 0 0), .lit (.slice none 0 0), .lit (.int .i64 0), .lit (.int .i64 0), .lit (.bool false), .lit (.int .i64 0), .lit (.string ⟨#[]⟩), .lit (.int .i64 0), .lit (.int .i64 0), .lit (.string ⟨#[]⟩), .lit (.int .i64 0), .lit (.int .i64 0), .lit (.slice none 0 0), .lit (.int .i64 0), .lit (.string ⟨#[]⟩), .lit (.slice none 0 0), .lit (.int .i64 0), .lit (.int .i64 0), .lit (.slice none 0 0), .lit (.slice none 0 0), .lit (.int .i64 17)]
theorem app_nnB (H : AH) : appendA (tabOf Try.prog NT0) H 26 26 (.lit (.slice none 0 0)) (.lit (.slice none 0 0)) = some (.lit (.slice none 0 0), H) := by kernel_rfl
theorem app_nnS (H : AH) : appendA (tabOf Try.prog NT0) H 56 56 (.lit (.slice none 0 0)) (.lit (.slice none 0 0)) = some (.lit (.slice none 0 0), H) := by kernel_rfl
theorem Reply_x {q p B : Nat} {H : AH} {c : CliD} {o : OpD} {i : Int} {vo vp vb vd : AV} (z : Bz q p B H c o i vo vp vb vd) (hb : 0 < c.boot) :
    WC Try.prog (tabOf Try.prog NT0) S0 6 [.ptr q 0, .agg (rplL c.k c.i c.boot)] H fun r h' => Kq q H h' ∧ EndA q h' c vo vp vb (an0 17) := by
  refine WC_fn Try.func6 rfl rfl ?_
  obtain ⟨hp, hhp⟩ : ∃ hp, hp = H.push (.cells (rplL c.k c.i c.boot) 58) := ⟨_, rfl⟩
  have EP : Ext H.n H hp := hhp ▸ (Ext.refl _ _).push _ (Nat.le_refl _)
  have P0 : hp.at H.n = some (.cells (rplL c.k c.i c.boot) 58) := hhp ▸ at_push_n _ _
  have zp := z.ext EP
  have lq := at_lt z.cq
  have lqp := Nat.lt_of_lt_of_le lq EP.1
  unfold rplL at P0 hhp
  have LP := ld_at (T := tabOf Try.prog NT0) P0
  have lP := at_lt P0
  unfold rplL
  simp only [core, zrA, zrS, zrM, zrL, zrE, reduceCtorEq, zrD, ziE, ziL, ziN, Try.ntmps6, ← hhp]
  rw [WB_regionD [0, 1, 2, 3, 4, 5, 6, 7, 8, 9, 10, 11] 11146288031902756625935560190634610435035136 (by kernel_rfl)]
  repeat ((with_reducible refine WDM_cons ?_; simp only [dw1]; try simp only [dw2, zrA, zrM, zrR, zrO, zrE]); simp only [core, zrA, zrS, zrM, zrL, zrE, reduceCtorEq, zrD, ziE, ziL, ziN, cored, LP, lP])
  refine (made_g zp.cq hb).mono ?_
  rintro _ _ ⟨rfl, q5⟩
  replace q5 := q5.symm
  subst q5
  have Y := zp.cq
  have P := zp.cp
  unfold cliB at Y
  unfold ocC at P
  have L := ld_at (T := tabOf Try.prog NT0) Y
  have lY := at_lt Y
  have LO := ld_at (T := tabOf Try.prog NT0) P
  have lO := at_lt P
  have hkk : (!((c.k == c.k) && (c.i == c.i))) = false := by simp
  have h31 : ((31 : Int) == 15) = false := rfl
  have h31' : ((31 : Int) == 31) = true := rfl
  have h22 : ((2 : Int) == 2) = true := rfl
  have h11 : ((1 : Int) == 1) = true := rfl
  have h17 : ((17 : Int) != 11) = true := rfl
  have hbb : (c.boot == c.boot) = true := by simp
  repeat ((with_reducible refine WDM_cons ?_; simp only [dw1]; try simp only [dw2, zrA, zrM, zrR, zrO, zrE]); simp only [core, zrA, zrS, zrM, zrL, zrE, reduceCtorEq, zrD, ziE, ziL, ziN, cored, LP, lP, L, lY, a_neMnode, neMnode_eq, hkk, h31, h31', h22])
  rw [WB_regionD [0, 1, 2, 3, 4, 5, 6, 7, 8, 9, 10, 11, 12, 13, 14, 15, 16, 17, 18, 19, 20, 21, 22, 23, 24, 25, 26, 27, 28, 29, 30] 9745314004592975875005312751219236241786660467050821840355463533034804538364449264970583129771186396701655311020776951344897629154410336578552576256083500140275813658018561839935061922791825537287031903994476550036395117224112970787657972418787539946257324096220463546239896857980428091392 (by kernel_rfl)]
  obtain ⟨hA, hhA⟩ : ∃ hA, hA = hp.push (.cells [.lit (.string ⟨#[]⟩), .lit (.int .i64 0), .lit (.int .i64 0), .lit (.slice none 0 0)] 55) := ⟨_, rfl⟩
  have eA : Ext hp.n hp hA := hhA ▸ (Ext.refl _ _).push _ (Nat.le_refl _)
  have XA : hA.at hp.n = some (.cells [.lit (.string ⟨#[]⟩), .lit (.int .i64 0), .lit (.int .i64 0), .lit (.slice none 0 0)] 55) := hhA ▸ at_push_n _ _
  have lXA := at_lt XA
  obtain ⟨hB, hhB⟩ : ∃ hB, hB = hA.put hp.n (.cells [.lit (.string ⟨#[]⟩), .lit (.int .i64 0), .lit (.int .i64 0), .lit (.slice none 0 0)] 55) := ⟨_, rfl⟩
  have eB : Ext hp.n hp hB := hhB ▸ eA.put _ (Nat.le_refl _)
  have XB : hB.at hp.n = some (.cells [.lit (.string ⟨#[]⟩), .lit (.int .i64 0), .lit (.int .i64 0), .lit (.slice none 0 0)] 55) := hhB ▸ at_put_same _ lXA
  have LXB := ld_at (T := tabOf Try.prog NT0) XB
  have lXB := at_lt XB
  obtain ⟨hC, hhC⟩ : ∃ hC, hC = hB.put hp.n (.cells [.lit (.string ⟨#[]⟩), .lit (.int .i64 0), .lit (.int .i64 0), .lit (.slice none 0 0)] 55) := ⟨_, rfl⟩
  have eC : Ext hp.n hp hC := hhC ▸ eB.put _ (Nat.le_refl _)
  have XC : hC.at hp.n = some (.cells [.lit (.string ⟨#[]⟩), .lit (.int .i64 0), .lit (.int .i64 0), .lit (.slice none 0 0)] 55) := hhC ▸ at_put_same _ lXB
  have LXC := ld_at (T := tabOf Try.prog NT0) XC
  have lXC := at_lt XC
  have P1 := (eC.2 _ lP).trans P0
  have LP1 := ld_at (T := tabOf Try.prog NT0) P1
  have lP1 := at_lt P1
  have zC := zp.ext eC
  repeat ((with_reducible refine WDM_cons ?_; simp only [dw1]; try simp only [dw2, zrA, zrM, zrR, zrO, zrE]); simp only [core, zrA, zrS, zrM, zrL, zrE, reduceCtorEq, zrD, ziE, ziL, ziN, cored, LP, lP, L, lY, LO, lO, h11, h17, hbb, ← hhA, XA, lXA, ← hhB, XB, LXB, lXB])
  rw [app_nnB]
  simp only [core, zrA, zrS, zrM, zrL, zrE, reduceCtorEq, zrD, ziE, ziL, ziN, XB, lXB, LXB, ← hhC]
  rw [WB_regionD [0, 1, 2, 3, 4, 5, 6, 7, 8] 1205366463262481640325120 (by kernel_rfl)]
  repeat ((with_reducible refine WDM_cons ?_; simp only [dw1]; try simp only [dw2, zrA, zrM, zrR, zrO, zrE]); simp only [core, zrA, zrS, zrM, zrL, zrE, reduceCtorEq, zrD, ziE, ziL, ziN, cored, LP1, lP1, LXC, lXC])
  rw [app_nnS]
  repeat (first | ((with_reducible refine WDM_cons ?_; simp only [dw1]; try simp only [dw2, zrA, zrM, zrR, zrO, zrE]); simp only [core, zrA, zrS, zrM, zrL, zrE, reduceCtorEq, zrD, ziE, ziL, ziN, cored, LP1, lP1, LXC, lXC]) | simp only [core, zrA, zrS, zrM, zrL, zrE, reduceCtorEq, zrD, ziE, ziL, ziN, cored, LP1, lP1, LXC, lXC])
  refine ⟨rfl, ?_⟩
  repeat ((with_reducible refine WDM_cons ?_; simp only [dw1]; try simp only [dw2, zrA, zrM, zrR, zrO, zrE]); simp only [core, zrA, zrS, zrM, zrL, zrE, reduceCtorEq, zrD, ziE, ziL, ziN, cored, LP1, lP1, LXC, lXC])
  refine ⟨rfl, ?_⟩
  refine (ended_x (an0 17) zC.cq rfl rfl).mono ?_
  rintro _ h3 ⟨k3, Y3, X3⟩
  try simp only [core, zrA, zrS, zrM, zrL, zrE, reduceCtorEq, zrD, ziE, ziL, ziN]
  exact ⟨((Kq.ext EP).trans (.ext eC)).trans k3, _, Y3, by have := eC.1; omega, X3⟩
end Go.Proofs.Ytjkmmbfenhhjkaa.Ex
end

section

set_option linter.unusedSimpArgs false
set_option linter.unusedVariables false
set_option maxRecDepth 10000
set_option maxHeartbeats 4000000
namespace Go.Proofs.Ytjkmmbfenhhjkaa.Ex
open Go
def RU64 : Rep Nat where
  z := 1
  is _ _ c x := c = [.lit (.int .u64 x)] ∧ x < 18446744073709551616
  len := fun ⟨h, _⟩ => by subst h; rfl
  one := fun ⟨h, _⟩ v hv => by subst h; simp at hv; subst hv; rfl
  lift := fun h _ => h
theorem RU64_z : RU64.z = 1 := rfl
theorem RU64_is {F : Nat → Prop} {h : AH} {c : List AV} {x : Nat} : RU64.is F h c x ↔ c = [.lit (.int .u64 x)] ∧ x < 18446744073709551616 := Iff.rfl
theorem st_map0 : StOk map0 0 := ⟨os_all0, rfl, Nat.zero_le _, Nat.le_refl _, Nat.le_refl _, fun b hb => by cases hb⟩
def staC (c : CliD) : AB := .cells [.lit (.int .i64 c.k), .lit (.int .i64 c.i), .lit (.int .i64 c.boot), .lit (.int .i64 c.mons), .lit (.int .i64 c.tries)] 25
theorem ends_m {H : AH} {c : CliD} {o : OpD} {vd vr : AV} {rs : List Nat} (hd : IsSl RByte (fun k => k < H.n) H vd o.d) (hs : o.s.size ≤ 140737488351232) (hr : IsSl RU64 (fun k => k < H.n) H vr rs) :
    WC Try.prog (tabOf Try.prog NT0) S0 3 [.agg [.lit (.int .i64 c.k), .lit (.int .i64 c.i), .lit (.int .i64 c.boot), .lit (.int .i64 c.mons), .lit (.int .i64 c.tries)], .agg (opL o vd), vr] H fun r h' => r = .lit (.bool true) := by
  refine WC_fn Try.func3 rfl rfl ?_
  have s1 := hd.isSl
  have c1 := hd.one
  have s2 := hr.isSl
  have d2 := hr.lenD
  have c2 := hr.one
  obtain ⟨N, hNc⟩ : ∃ N, N = rs.length := ⟨_, rfl⟩
  rw [← hNc] at d2
  obtain ⟨hp, hhp⟩ : ∃ hp, hp = (H.push (staC c)).push (.cells (opL o vd) 30) := ⟨_, rfl⟩
  have EP : Ext H.n H hp := hhp ▸ ((Ext.refl _ _).push _ (Nat.le_refl _)).push _ (by rw [n_push]; omega)
  have P0 : hp.at H.n = some (staC c) := hhp ▸ (at_push_lt _ (by rw [n_push]; omega)).trans (at_push_n _ _)
  have nP : hp.n = H.n + 2 := by rw [hhp, n_push, n_push]
  have O0 : hp.at (H.n + 1) = some (.cells (opL o vd) 30) := by
    have : hp.at (H.push (staC c)).n = some (.cells (opL o vd) 30) := hhp ▸ at_push_n _ _
    rwa [n_push] at this
  unfold opL staC at hhp
  unfold staC at P0
  unfold opL at O0
  unfold opL
  have LP := ld_at (T := tabOf Try.prog NT0) P0
  have lP := at_lt P0
  simp only [core, zrA, zrS, zrM, zrL, zrE, reduceCtorEq, zrD, ziE, ziL, ziN, Try.ntmps3, c1, c2, ← hhp, LP, lP]
  have e22 : ((22 : Int) != 0) = true := rfl
  have e00 : ((0 : Int) != 0) = false := rfl
  have hpe : pur Try.prog (binOp .eql 32 (.pointer none) (.pointer none)) = some (.ok (.bool true)) := by kernel_rfl
  by_cases hno : c.boot < 1 ∨ c.tries < 1 ∨ c.mons < 1 ∨ 5 < c.mons
  · refine (New_x c hno).mono ?_
    rintro _ h1 ⟨e1, rfl⟩
    simp only [core, zrA, zrS, zrM, zrL, zrE, reduceCtorEq, zrD, ziE, ziL, ziN, e22, a_nilE, hpe]
    refine lives23_c ?_
    simp only [core, zrA, zrS, zrM, zrL, zrE, reduceCtorEq, zrD, ziE, ziL, ziN]
  have b1 : ¬ c.boot < 1 := fun h => hno (.inl h)
  have b2 : ¬ c.tries < 1 := fun h => hno (.inr (.inl h))
  have b3 : ¬ c.mons < 1 := fun h => hno (.inr (.inr (.inl h)))
  have b4 : ¬ 5 < c.mons := fun h => hno (.inr (.inr (.inr h)))
  have hb : 0 < c.boot := by omega
  refine (New_ok c b1 b2 b3 b4).mono ?_
  rintro _ h1 ⟨e1, q, rfl, hqn, hq⟩
  have f1 := e1.1
  have E1 := EP.trans (e1.mono EP.1)
  have P1 := (e1.2 _ lP).trans P0
  have LP1 := ld_at (T := tabOf Try.prog NT0) P1
  have lP1 := at_lt P1
  by_cases c200 : (200 : Int) < c.tries
  · simp only [core, zrA, zrS, zrM, zrL, zrE, reduceCtorEq, zrD, ziE, ziL, ziN, c200, e00, LP1, lP1]
    refine lives23_c ?_
    simp only [core, zrA, zrS, zrM, zrL, zrE, reduceCtorEq, zrD, ziE, ziL, ziN]
    try simp
  cases hk1 : (c.k == 1) with
  | true =>
    simp only [core, zrA, zrS, zrM, zrL, zrE, reduceCtorEq, zrD, ziE, ziL, ziN, c200, e00, LP1, lP1, hk1]
    refine lives23_c ?_
    simp only [core, zrA, zrS, zrM, zrL, zrE, reduceCtorEq, zrD, ziE, ziL, ziN]
    try simp
  | false =>
  cases hk2 : (c.k == 2) with
  | true =>
    simp only [core, zrA, zrS, zrM, zrL, zrE, reduceCtorEq, zrD, ziE, ziL, ziN, c200, e00, LP1, lP1, hk1, hk2]
    refine lives23_c ?_
    simp only [core, zrA, zrS, zrM, zrL, zrE, reduceCtorEq, zrD, ziE, ziL, ziN]
    try simp
  | false =>
  simp only [core, zrA, zrS, zrM, zrL, zrE, reduceCtorEq, zrD, ziE, ziL, ziN, c200, e00, LP1, lP1, hk1, hk2]
  rw [WB_regionD [0, 1, 2, 3, 4, 5, 6] 278107730739200 (by kernel_rfl)]
  repeat ((with_reducible refine WDM_cons ?_; simp only [dw1]; try simp only [dw2, zrA, zrM, zrR, zrO, zrE]); simp only [core, zrA, zrS, zrM, zrL, zrE, reduceCtorEq, zrD, ziE, ziL, ziN, cored, LP1, lP1])
  refine (up_x).mono ?_
  rintro v2 h2 ⟨e2, u2⟩
  have w2 := u2.one
  have P2 := (e2.2 _ lP1).trans P1
  have LP2 := ld_at (T := tabOf Try.prog NT0) P2
  have lP2 := at_lt P2
  repeat ((with_reducible refine WDM_cons ?_; simp only [dw1]; try simp only [dw2, zrA, zrM, zrR, zrO, zrE]); simp only [core, zrA, zrS, zrM, zrL, zrE, reduceCtorEq, zrD, ziE, ziL, ziN, cored, LP2, lP2, w2])
  refine (Step_x (ep := 1) (vi := v2) [upI] 0 (hq.ext e2) hb u2 (fun b hb => by have := hq.lt; omega) (by decide) (by decide) (fun x hx => ?_) st_map0 (by unfold I64; decide) (by decide)).mono ?_
  · obtain rfl := List.mem_singleton.1 hx
    unfold Sm
    exact ⟨by decide, by decide⟩
  rintro _ h3 ⟨k3, cl3⟩
  rw [step_M1] at cl3
  obtain ⟨vo, vp, vb, y1, y2⟩ := cl3
  have y1' : h3.at q = some (cliB c M1 vo vp vb 0 (.lit (.pointer none)) (.lit (.pointer none))) := y1
  have E2 := E1.trans (e2.mono E1.1)
  have f2 := e2.1
  have f3 := k3.1
  have lq := hq.lt
  have P3 := (k3.2 _ (by omega) (by omega)).trans ((e2.2 _ lP1).trans P1)
  have LP3 := ld_at (T := tabOf Try.prog NT0) P3
  have lP3 := at_lt P3
  have O3 := (k3.2 _ (by omega) (by omega)).trans ((e2.2 _ (by omega)).trans ((e1.2 _ (at_lt O0)).trans O0))
  have LO3 := ld_at (T := tabOf Try.prog NT0) O3
  have lO3 := at_lt O3
  have d3 : IsSl RByte (fun b => b ≠ q) h3 vd o.d := (k3.sl (hd.ext E2 (Nat.le_refl _)) (fun b hb => by omega)).lift fun b hb hlt => ⟨rfl, by omega⟩
  have r3 : IsSl RU64 (fun k => k < H.n) h3 vr rs := k3.sl (hr.ext E2 (Nat.le_refl _)) (fun b hb => by omega)
  simp only [core, zrA, zrS, zrM, zrL, zrE, reduceCtorEq, zrD, ziE, ziL, ziN, cored, core, zrA, zrS, zrM, zrL, zrE, reduceCtorEq, zrD, ziE, ziL, ziN, LO3, lO3, c1]
  refine (Begin_x (o := o) (vd := vd) y1' y2 hb d3 hs).mono ?_
  rintro _ h4 (⟨e, he, rfl, e4⟩ | ⟨p, B, b, vd1, vd2, k4, z4, hnp, hpb, hg, hdl, rfl, x7, x8⟩)
  · simp only [core, zrA, zrS, zrM, zrL, zrE, reduceCtorEq, zrD, ziE, ziL, ziN, he]
    refine (busy_no ((e4.2 _ (at_lt y1')).trans y1') hb).mono ?_
    rintro _ _ ⟨rfl, q5⟩
    replace q5 := q5.symm
    subst q5
    simp only [core, zrA, zrS, zrM, zrL, zrE, reduceCtorEq, zrD, ziE, ziL, ziN]
    refine lives23_c ?_
    simp only [core, zrA, zrS, zrM, zrL, zrE, reduceCtorEq, zrD, ziE, ziL, ziN]
  have f4 := k4.1
  have qB := z4.qB
  have Bp := z4.Bp
  have lp4 := at_lt z4.cp
  have lb4 := at_lt x7
  have P4 := (k4.2 _ (by omega) (by omega)).trans P3
  have LP4 := ld_at (T := tabOf Try.prog NT0) P4
  have lP4 := at_lt P4
  have r4 := k4.sl r3 (fun b hb => by omega)
  have X4 := x7
  unfold msC reqM at X4
  have LX4 := ld_at (T := tabOf Try.prog NT0) X4
  have lX4 := at_lt X4
  have h11 : ((1 : Int) != 1) = false := rfl
  have hbb : (c.boot != c.boot) = false := by simp
  simp only [core, zrA, zrS, zrM, zrL, zrE, reduceCtorEq, zrD, ziE, ziL, ziN, e00]
  rw [WB_regionD [0, 1, 2, 3, 4, 5, 6, 7, 8, 9, 10, 11, 12, 13, 14, 15, 16, 17, 18] 2348535863523653508836993531601357855829121052459389214861910035341328575869525196452259035059274151046414336 (by kernel_rfl)]
  have i9 : isSl (.sl b 0 1 (.kn 1)) = true := rfl
  have d9 : lenD (.sl b 0 1 (.kn 1)) = 1 := rfl
  have n9 : (((1 : Nat) : Int) != 1) = false := rfl
  have j9 : slB (.sl b 0 1 (.kn 1)) = b := rfl
  have k9 : slO (.sl b 0 1 (.kn 1)) = 0 := rfl
  have m9 : ((0 : Int) < ((1 : Nat) : Int)) = True := by simp
  repeat ((with_reducible refine WDM_cons ?_; simp only [dw1]; try simp only [dw2, zrA, zrM, zrR, zrO, zrE]); simp only [core, zrA, zrS, zrM, zrL, zrE, reduceCtorEq, zrD, ziE, ziL, ziN, cored, i9, d9, n9, m9, j9, k9, LX4, lX4, LP4, lP4, h11, hbb])
  obtain ⟨M, hM⟩ : ∃ M : Nat, c.tries = (M : Int) := ⟨c.tries.toNat, by omega⟩
  obtain ⟨K, hK⟩ : ∃ K : Nat, c.mons = (K : Int) := ⟨c.mons.toNat, by omega⟩
  have h30 : ((3 : Int) = 0) = False := by simp
  refine WB_ind (fun (i : Nat) t h => K2 q p h4 h ∧ ((i ≤ M ∧ Bz q p B h c o i vo vp vb vd1) ∨ (i = M + 1 ∧ EndA q h c vo vp vb (an0 110))) ∧ t.n = 204 ∧ t.get 2 = vr ∧ t.get 3 = .ptr H.n 0 ∧ t.get 7 = .ptr q 0 ∧ t.get 9 = .sl b 0 1 (.kn 1) ∧ t.get 10 = .lit (.int .i64 (i : Nat))) (fun i => M + 2 - i) ?_ 0 _ _ ?_
  · rintro i t h ⟨k5, hcase, hn, g2, g3, g7, g9, g10⟩ ih
    have P5 := (k5.2 _ (by omega) (by omega) (by omega)).trans P4
    have LP5 := ld_at (T := tabOf Try.prog NT0) P5
    have lP5 := at_lt P5
    have hn5 := k5.1
    rcases hcase with ⟨him, z5⟩ | ⟨rfl, a, Y5, hqa, A5⟩
    · have hc : ((i : Int) ≤ c.tries) = True := by rw [hM]; simp; omega
      have hwi : IntKind.i64.wrap ((i : Int) + 1) = ((i + 1 : Nat) : Int) := (wrap_in (by omega) (by omega)).trans (by omega)
      simp only [core, zrA, zrS, zrM, zrL, zrE, reduceCtorEq, zrD, ziE, ziL, ziN, hn, g2, g3, g7, g9, g10, LP5, lP5, hc]
      refine (busy_yes z5.cq hb).mono ?_
      rintro _ _ ⟨rfl, q5⟩
      replace q5 := q5.symm
      subst q5
      have r5 : IsSl RU64 (fun k => k < H.n) h vr rs := r4.lift fun b hb hlt => ⟨k5.2 b hlt (by omega) (by omega), hb⟩
      have key : (∃ x : Nat, i < N ∧ ((i : Int) < (N : Int)) = True ∧ rs[i]? = some x ∧ (Int.tmod (x : Int) 3 == 0) = true) ∨ (((i : Int) < (N : Int)) = False) ∨ (∃ x : Nat, i < N ∧ ((i : Int) < (N : Int)) = True ∧ rs[i]? = some x ∧ (Int.tmod (x : Int) 3 == 0) = false) := by
        by_cases hiN : i < N
        · obtain ⟨x, hx⟩ : ∃ x, rs[i]? = some x := ⟨_, List.getElem?_eq_getElem (by omega)⟩
          cases h3 : (Int.tmod (x : Int) 3 == 0)
          · exact .inr (.inr ⟨x, hiN, by simp; omega, hx, h3⟩)
          · exact .inl ⟨x, hiN, by simp; omega, hx, h3⟩
        · exact .inr (.inl (by simp; omega))
      rcases key with ⟨x, hiN, hir, hx, h3⟩ | hir | ⟨x, hiN, hir, hx, h3⟩
      · obtain ⟨cc, hc1, hld, hld0⟩ := r5.at (T := tabOf Try.prog NT0) RU64_z hx
        obtain ⟨rfl, x1⟩ := RU64_is.1 hc1
        have ld := hld0 61 1 (by kernel_rfl) (by decide) (by decide)
        rw [Nat.mul_one] at ld
        have X5 := (k5.2 b (by omega) (by omega) (by omega)).trans X4
        have LX5 := ld_at (T := tabOf Try.prog NT0) X5
        have lX5 := at_lt X5
        simp only [core, zrA, zrS, zrM, zrL, zrE, reduceCtorEq, zrD, ziE, ziL, ziN, hn, g2, g3, g7, g9, g10, s2, d2, hir, hiN, ld, h30, h3]
        rw [WB_regionD [0, 1, 2, 3, 4, 5, 6, 7, 8, 9, 10] 1328253212087423982809712669262610432 (by kernel_rfl)]
        repeat ((with_reducible refine WDM_cons ?_; simp only [dw1]; try simp only [dw2, zrA, zrM, zrR, zrO, zrE]); simp only [core, zrA, zrS, zrM, zrL, zrE, reduceCtorEq, zrD, ziE, ziL, ziN, cored, hn, g2, g3, g7, g9, g10, i9, d9, j9, k9, m9, LX5, lX5, LP5, lP5])
        refine (Reply_x z5 hb).mono ?_
        rintro _ h6 ⟨k6, a6, Y6, hqa6, A6⟩
        try simp only [core, zrA, zrS, zrM, zrL, zrE, reduceCtorEq, zrD, ziE, ziL, ziN, hn, g2, g3, g7, g9, g10]
        repeat ((with_reducible refine WDM_cons ?_; simp only [dw1]; try simp only [dw2, zrA, zrM, zrR, zrO, zrE]); simp only [core, zrA, zrS, zrM, zrL, zrE, reduceCtorEq, zrD, ziE, ziL, ziN, cored, hn, g2, g3, g7, g9, g10])
        refine (answer_yes (an0 17) Y6 A6 hqa6 rfl rfl hb).mono ?_
        rintro _ h7 ⟨k7, Y7, rfl⟩
        obtain ⟨h8, hh8⟩ : ∃ h8, h8 = h7.push (.cells (anL (an0 17)) 63) := ⟨_, rfl⟩
        have e8 : Ext h7.n h7 h8 := hh8 ▸ (Ext.refl _ _).push _ (Nat.le_refl _)
        have X8 : h8.at h7.n = some (.cells (anL (an0 17)) 63) := hh8 ▸ at_push_n _ _
        have Y8 := (e8.2 _ (at_lt Y7)).trans Y7
        unfold anL an0 at hh8 X8 ⊢
        have LX8 := ld_at (T := tabOf Try.prog NT0) X8
        have lX8 := at_lt X8
        simp only [core, zrA, zrS, zrM, zrL, zrE, reduceCtorEq, zrD, ziE, ziL, ziN, hn, g2, g3, g7, g9, g10, ← hh8]
        refine (answer_no Y8 hb).mono ?_
        rintro _ h9 ⟨e9, rfl⟩
        obtain ⟨hZ, hhZ⟩ : ∃ hZ, hZ = h9.push (.cells (anL (an0 0)) 63) := ⟨_, rfl⟩
        have eZ : Ext h9.n h9 hZ := hhZ ▸ (Ext.refl _ _).push _ (Nat.le_refl _)
        have XZ : hZ.at h9.n = some (.cells (anL (an0 0)) 63) := hhZ ▸ at_push_n _ _
        have lXZ := at_lt XZ
        obtain ⟨h10, hh10⟩ : ∃ h10, h10 = hZ.put h9.n (.cells (anL (an0 0)) 63) := ⟨_, rfl⟩
        have e10 : Ext h9.n h9 h10 := hh10 ▸ eZ.put _ (Nat.le_refl _)
        have E10 := e9.trans (e10.mono e9.1)
        have X10 := (E10.2 _ lX8).trans X8
        have Y10 := (E10.2 _ (at_lt Y8)).trans Y8
        have LX10 := ld_at (T := tabOf Try.prog NT0) X10
        have lX10 := at_lt X10
        unfold anL an0 at hh10 hhZ XZ ⊢
        have h17 : ((17 : Int) == 17) = true := rfl
        simp only [core, zrA, zrS, zrM, zrL, zrE, reduceCtorEq, zrD, ziE, ziL, ziN, hn, g2, g3, g7, g9, g10, ← hhZ, XZ, lXZ, ← hh10, LX10, lX10, h17]
        refine (busy_no Y10 hb).mono ?_
        rintro _ _ ⟨rfl, q5⟩
        replace q5 := q5.symm
        subst q5
        simp only [core, zrA, zrS, zrM, zrL, zrE, reduceCtorEq, zrD, ziE, ziL, ziN, hn, g2, g3, g7, g9, g10]
        refine lives23_c ?_
        simp only [core, zrA, zrS, zrM, zrL, zrE, reduceCtorEq, zrD, ziE, ziL, ziN, hn, g2, g3, g7, g9, g10]
        try simp
      rotate_left
      obtain ⟨cc, hc1, hld, hld0⟩ := r5.at (T := tabOf Try.prog NT0) RU64_z hx
      obtain ⟨rfl, x1⟩ := RU64_is.1 hc1
      have ld := hld0 61 1 (by kernel_rfl) (by decide) (by decide)
      rw [Nat.mul_one] at ld
      simp only [core, zrA, zrS, zrM, zrL, zrE, reduceCtorEq, zrD, ziE, ziL, ziN, hn, g2, g3, g7, g9, g10, s2, d2, hir, hiN, ld, h30, h3]
      rotate_left
      simp only [core, zrA, zrS, zrM, zrL, zrE, reduceCtorEq, zrD, ziE, ziL, ziN, hn, g2, g3, g7, g9, g10, s2, d2, hir]
      all_goals
        refine (Tick_x z5 hs hg hdl hb hK (by omega) (by omega) (by omega)).mono ?_
        rintro v6 h6 ⟨k6, hout, xs, hxs, hxl, hxt⟩
        have s6 := hxs.isSl
        have d6 := hxs.lenD
        have c6 := hxs.one
        obtain ⟨L, hL⟩ : ∃ L, L = xs.length := ⟨_, rfl⟩
        rw [← hL] at d6
        have P6 := (k6.2 _ lP5 (by omega) (by omega)).trans P5
        have k46 := k5.trans k6
        have hn6 := k46.1
        simp only [core, zrA, zrS, zrM, zrL, zrE, reduceCtorEq, zrD, ziE, ziL, ziN, hn, g2, g3, g7, g9, g10, s6, d6, c6]
        refine WB_for L (fun j t h => Ext h6.n h6 h ∧ t.n = 204 ∧ t.get 2 = vr ∧ t.get 3 = .ptr H.n 0 ∧ t.get 7 = .ptr q 0 ∧ t.get 9 = .sl b 0 1 (.kn 1) ∧ t.get 10 = .lit (.int .i64 (i : Nat)) ∧ t.get 163 = v6 ∧ t.get 164 = .lit (.int .i64 L) ∧ t.get 165 = .lit (.int .i64 j)) ?_ ?_ _ _ ?_
        · rintro j t h7 hlt hcj ⟨e7, hn, g2, g3, g7, g9, g10, g163, g164, g165⟩ ih2
          obtain ⟨x, hx⟩ : ∃ x, xs[j]? = some x := ⟨_, List.getElem?_eq_getElem (by omega)⟩
          have hwj := wrap_succ (n := L) hlt (by omega)
          obtain ⟨cc, hc1, hld, hld0⟩ := (hxs.ext e7 (Nat.le_refl _)).at (T := tabOf Try.prog NT0) RMs_z hx
          obtain ⟨rfl, xo⟩ := RMs_is.1 hc1
          have P7 := (e7.2 _ (at_lt P6)).trans P6
          obtain ⟨h8, hh8⟩ : ∃ h8, h8 = h7.push (.cells (msC x) 58) := ⟨_, rfl⟩
          have e8 : Ext h7.n h7 h8 := hh8 ▸ (Ext.refl _ _).push _ (Nat.le_refl _)
          have X8 : h8.at h7.n = some (.cells (msC x) 58) := hh8 ▸ at_push_n _ _
          have P8 := (e8.2 _ (at_lt P7)).trans P7
          have LP8 := ld_at (T := tabOf Try.prog NT0) P8
          have lP8 := at_lt P8
          unfold msC at hh8 X8 hld hld0
          have LX8 := ld_at (T := tabOf Try.prog NT0) X8
          have lX8 := at_lt X8
          have E8 := e7.step e8
          simp only [core, zrA, zrS, zrM, zrL, zrE, reduceCtorEq, zrD, ziE, ziL, ziN, hn, g2, g3, g7, g9, g10, g163, g164, g165, hlt, hcj, s6, d6, hld, hld0, xo, ← hh8, LX8, lX8]
          rcases hxt x (List.mem_of_getElem? hx) with hk | ⟨hxn, hxc⟩
          · have q1 : (x.kind == 30) = false := by rw [hk]; rfl
            simp only [core, zrA, zrS, zrM, zrL, zrE, reduceCtorEq, zrD, ziE, ziL, ziN, hn, g2, g3, g7, g9, g10, g163, g164, g165, q1, hwj, aundef]
            refine ih2 _ _ ⟨E8, ?_⟩
            simp only [core, zrA, zrS, zrM, zrL, zrE, reduceCtorEq, zrD, ziE, ziL, ziN, hn, g2, g3, g7, g9, g10, g163, g164, g165]
          · have q2 : (x.num != 1) = false := by rw [hxn]; rfl
            have q3 : (x.client != c.boot) = false := by rw [hxc]; simp
            cases q1 : (x.kind == 30)
            all_goals
              simp only [core, zrA, zrS, zrM, zrL, zrE, reduceCtorEq, zrD, ziE, ziL, ziN, hn, g2, g3, g7, g9, g10, g163, g164, g165, q2, q3, hwj, LP8, lP8, LX8, lX8, aundef]
              refine ih2 _ _ ⟨E8, ?_⟩
              simp only [core, zrA, zrS, zrM, zrL, zrE, reduceCtorEq, zrD, ziE, ziL, ziN, hn, g2, g3, g7, g9, g10, g163, g164, g165]
        · rintro t h7 hcj ⟨e7, hn, g2, g3, g7, g9, g10, g163, g164, g165⟩
          simp only [core, zrA, zrS, zrM, zrL, zrE, reduceCtorEq, zrD, ziE, ziL, ziN, hn, g2, g3, g7, g9, g10, g163, g164, g165, hcj, hwi]
          have k47 := k46.trans (.ext e7)
          rcases hout with ⟨hlt6, a, Y6, hqa, A6⟩ | ⟨hlt6, z6⟩
          · refine ih (i + 1) _ _ ⟨k47, .inr ⟨by omega, a, (e7.2 _ (at_lt Y6)).trans Y6, hqa, (e7.2 _ (at_lt A6)).trans A6⟩, ?_⟩ (by omega)
            simp only [core, zrA, zrS, zrM, zrL, zrE, reduceCtorEq, zrD, ziE, ziL, ziN, hn, g2, g3, g7, g9, g10, g163, g164, g165]
          · refine ih (i + 1) _ _ ⟨k47, .inl ⟨by omega, (z6.ext e7 : Bz q p B h7 c o ((i + 1 : Nat) : Int) vo vp vb vd1)⟩, ?_⟩ (by omega)
            simp only [core, zrA, zrS, zrM, zrL, zrE, reduceCtorEq, zrD, ziE, ziL, ziN, hn, g2, g3, g7, g9, g10, g163, g164, g165]
        · refine ⟨Ext.refl _ _, ?_⟩
          simp only [core, zrA, zrS, zrM, zrL, zrE, reduceCtorEq, zrD, ziE, ziL, ziN, hn, g2, g3, g7, g9, g10]
          (repeat' apply And.intro) <;> first | rfl | trivial
    · have hc : (((M + 1 : Nat) : Int) ≤ c.tries) = False := by rw [hM]; simp; omega
      simp only [core, zrA, zrS, zrM, zrL, zrE, reduceCtorEq, zrD, ziE, ziL, ziN, hn, g2, g3, g7, g9, g10, LP5, lP5, hc]
      refine (answer_yes (an0 110) Y5 A5 hqa rfl rfl hb).mono ?_
      rintro _ h7 ⟨k7, Y7, rfl⟩
      obtain ⟨h8, hh8⟩ : ∃ h8, h8 = h7.push (.cells (anL (an0 110)) 63) := ⟨_, rfl⟩
      have e8 : Ext h7.n h7 h8 := hh8 ▸ (Ext.refl _ _).push _ (Nat.le_refl _)
      have X8 : h8.at h7.n = some (.cells (anL (an0 110)) 63) := hh8 ▸ at_push_n _ _
      have Y8 := (e8.2 _ (at_lt Y7)).trans Y7
      unfold anL an0 at hh8 X8 ⊢
      have LX8 := ld_at (T := tabOf Try.prog NT0) X8
      have lX8 := at_lt X8
      have h110 : ((110 : Int) == 110) = true := rfl
      simp only [core, zrA, zrS, zrM, zrL, zrE, reduceCtorEq, zrD, ziE, ziL, ziN, hn, g2, g3, g7, g9, g10, ← hh8, LX8, lX8, h110]
      refine (busy_no Y8 hb).mono ?_
      rintro _ _ ⟨rfl, q5⟩
      replace q5 := q5.symm
      subst q5
      simp only [core, zrA, zrS, zrM, zrL, zrE, reduceCtorEq, zrD, ziE, ziL, ziN, hn, g2, g3, g7, g9, g10]
      refine lives23_c ?_
      simp only [core, zrA, zrS, zrM, zrL, zrE, reduceCtorEq, zrD, ziE, ziL, ziN, hn, g2, g3, g7, g9, g10]
      try simp
  · refine ⟨⟨Nat.le_refl _, fun _ _ _ _ => rfl⟩, .inl ⟨Nat.zero_le _, z4⟩, ?_⟩
    simp only [core, zrA, zrS, zrM, zrL, zrE, reduceCtorEq, zrD, ziE, ziL, ziN]
    (repeat' apply And.intro) <;> first | rfl | trivial
end Go.Proofs.Ytjkmmbfenhhjkaa.Ex
end

section

set_option linter.unusedSimpArgs false
set_option linter.unusedVariables false
namespace Go.Proofs.Ytjkmmbfenhhjkaa.Ex
open Go Go.RowKit Go.ChangeShapes Go.WideShapes Go.ChangeAt
def RTwo : Rep (Int × Int) := RMap (fun x => (x.1, x.2)) (RPair RInt RInt)
def RStart : Rep CliD := RMap (fun c => ((c.k, c.i), c.boot, c.mons, c.tries)) (RPair RTwo (RPair RInt (RPair RInt RInt)))
theorem RStart_is {F : Nat → Prop} {h : AH} {c : List AV} {x : CliD} (hc : RStart.is F h c x) : c = [.lit (.int .i64 x.k), .lit (.int .i64 x.i), .lit (.int .i64 x.boot), .lit (.int .i64 x.mons), .lit (.int .i64 x.tries)] := by
  obtain ⟨_, _, rfl, ⟨_, _, rfl, ⟨rfl, -⟩, rfl, -⟩, _, _, rfl, ⟨rfl, -⟩, _, _, rfl, ⟨rfl, -⟩, rfl, -⟩ := hc
  rfl
def ROpD : Rep OpD := RMap (fun o => (o.k, o.s, o.d, o.e, o.n)) (RPair RInt (RPair RStr (RPair (RSl RByte) RTwo)))
theorem ROpD_is {F : Nat → Prop} {h : AH} {c : List AV} {x : OpD} (hc : ROpD.is F h c x) : ∃ vd, c = opL x vd ∧ IsSl RByte F h vd x.d := by
  obtain ⟨_, _, rfl, ⟨rfl, -⟩, _, _, rfl, h2, _, _, rfl, h3, _, _, rfl, ⟨rfl, -⟩, rfl, -⟩ := hc
  obtain ⟨v, rfl, h3⟩ := RSl_is.1 h3
  cases h2
  exact ⟨v, rfl, h3⟩
section
variable {H : Type} {enc : TypeId × Value → H} {W : World}
theorem opensA_u8 : OpensA enc Try.prog W 5 RByte (fun _ => True) := by
  refine ⟨by kernel_rfl, fun fuel cs x h _ => ?_⟩
  obtain ⟨n, rfl, rfl, hw⟩ := DataW.trod_int Try.underlying5 h
  simp only [Lit.wf, IntKind.min, IntKind.max, IntKind.signed, IntKind.bits] at hw
  simp at hw
  refine ⟨rfl, by simp; rfl, UInt8.ofNat n.toNat, ?_, trivial, Nat.zero_le _⟩
  show [AV.lit (Value.int .u8 n)] = [AV.lit (Value.int .u8 ((UInt8.ofNat n.toNat).toNat : Int))]
  rw [UInt8.toNat_ofNat', show ((n.toNat % 2 ^ 8 : Nat) : Int) = n by omega]
theorem opensA_bytes : OpensA enc Try.prog W 26 (RSl RByte) (fun ys => ys.length * 1 ≤ 140737488351232 ∧ ∀ y ∈ ys, True) :=
  opensA_list Try.underlying26 (by kernel_rfl) (by kernel_rfl) (by decide) opensA_u8
theorem opensA_u64 : OpensA enc Try.prog W 61 RU64 (fun _ => True) := by
  refine ⟨by kernel_rfl, fun fuel cs x h _ => ?_⟩
  obtain ⟨n, rfl, rfl, hw⟩ := DataW.trod_int Try.underlying61 h
  simp only [Lit.wf, IntKind.min, IntKind.max, IntKind.signed, IntKind.bits] at hw
  simp at hw
  obtain ⟨a, rfl⟩ := Int.eq_ofNat_of_zero_le hw.1
  exact ⟨rfl, by simp; rfl, a, RU64_is.2 ⟨rfl, by omega⟩, trivial, Nat.zero_le _⟩
theorem opensA_u64s : OpensA enc Try.prog W 31 (RSl RU64) (fun ys => ys.length * 8 ≤ 140737488351232 ∧ ∀ y ∈ ys, True) :=
  opensA_list Try.underlying31 (by kernel_rfl) (by kernel_rfl) (by decide) opensA_u64
theorem opensA_strW : OpensA enc Try.prog W 9 RStr (fun s => s.size ≤ 140737488351232) := by
  refine ⟨by kernel_rfl, fun fuel cs x h hw => ?_⟩
  obtain ⟨s, rfl, rfl, hs⟩ := DataW.trod_string Try.underlying9 h
  refine ⟨rfl, by simp; rfl, s, rfl, ?_, Nat.zero_le _⟩
  simp [DataW.weights, reachBytes] at hw
  exact of_decide_eq_true hw
theorem opensA_Node : OpensA enc Try.prog W 23 RTwo (fun _ => True) :=
  opensA_struct (ts := [3, 3]) (fun x : Int × Int => (x.1, x.2)) (fun y => (y.1, y.2)) (fun y => rfl) Try.underlying23 (by rfl) (by kernel_rfl) (by kernel_rfl) (opensL_cons (opensA_int Try.underlying3 (by kernel_rfl)) (opensL_one (opensA_int Try.underlying3 (by kernel_rfl)))) (fun _ _ => trivial)
theorem opensA_Ver2 : OpensA enc Try.prog W 28 RTwo (fun _ => True) :=
  opensA_struct (ts := [3, 3]) (fun x : Int × Int => (x.1, x.2)) (fun y => (y.1, y.2)) (fun y => rfl) Try.underlying28 (by rfl) (by kernel_rfl) (by kernel_rfl) (opensL_cons (opensA_int Try.underlying3 (by kernel_rfl)) (opensL_one (opensA_int Try.underlying3 (by kernel_rfl)))) (fun _ _ => trivial)
set_option maxRecDepth 10000 in
theorem opensA_Start : OpensA enc Try.prog W 25 RStart (fun _ => True) :=
  opensA_struct (ts := [23, 3, 3, 3]) (fun c : CliD => ((c.k, c.i), c.boot, c.mons, c.tries)) (fun y => ⟨y.1.1, y.1.2, y.2.1, y.2.2.1, y.2.2.2⟩) (fun y => rfl) Try.underlying25 (by rfl) (by kernel_rfl) (by kernel_rfl) (opensL_cons opensA_Node (opensL_cons (opensA_int Try.underlying3 (by kernel_rfl)) (opensL_cons (opensA_int Try.underlying3 (by kernel_rfl)) (opensL_one (opensA_int Try.underlying3 (by kernel_rfl)))))) (fun _ _ => trivial)
set_option maxRecDepth 10000 in
theorem opensA_OpD : OpensA enc Try.prog W 30 ROpD (fun o => o.s.size ≤ 140737488351232) :=
  opensA_struct (ts := [3, 9, 26, 28]) (fun o : OpD => (o.k, o.s, o.d, o.e, o.n)) (fun y => ⟨y.1, y.2.1, y.2.2.1, y.2.2.2.1, y.2.2.2.2⟩) (fun y => rfl) Try.underlying30 (by rfl) (by kernel_rfl) (by kernel_rfl) (opensL_cons (opensA_int Try.underlying3 (by kernel_rfl)) (opensL_cons opensA_strW (opensL_cons opensA_bytes (opensL_one opensA_Ver2)))) (fun _ h => h.2.1)
end
end Go.Proofs.Ytjkmmbfenhhjkaa.Ex
namespace Go.Proofs.Ytjkmmbfenhhjkaa
open Go.RowKit Go.ChangeShapes Go.WideShapes Go.ChangeAt
set_option maxRecDepth 100000 in
theorem clientEnds_walk {H : Type} {enc : TypeId × Value → H} {W : World} {base : Nat} {v0 v1 v2 : Value} {d0 d1 d2 : DataW H} {p0 p1 p2 : List MemPlace}
    (k0 : Value.okWide Try.prog W .any base 25 v0) (h0 : DataW.Trod enc Try.prog W 0 (fun _ => true) true 25 v0 d0 p0)
    (k1 : Value.okWide Try.prog W .any base 30 v1) (h1 : DataW.Trod enc Try.prog W 0 (fun _ => true) true 30 v1 d1 p1)
    (k2 : Value.okWide Try.prog W .any base 31 v2) (h2 : DataW.Trod enc Try.prog W 0 (fun _ => true) true 31 v2 d2 p2)
    {ts : List TypeId} {ds : List (DataW H)} (hsz : (DataW.weightsEach Try.prog ([25, 30, 31] ++ ts) ([d0, d1, d2] ++ ds)).all (· ≤ reachBytes) = true) :
    Calls Try.prog 3 #[v0, v1, v2] W fun e w' => e = .returned (.bool true) ∧ Below W.heap.size W w' := by
  obtain ⟨c0, c, r0, i0, -⟩ := Ex.open_agg Ex.opensA_Start Try.underlying25 rfl k0 h0 (weights_le hsz (j := 0) rfl rfl)
  obtain ⟨c1, o, r1, i1, ok1⟩ := Ex.open_agg Ex.opensA_OpD Try.underlying30 rfl k1 h1 (weights_le hsz (j := 1) rfl rfl)
  obtain ⟨u, rs, r2, i2, ok2⟩ := Ex.open_sl Ex.opensA_u64s Try.underlying31 k2 h2 (weights_le hsz (j := 2) rfl rfl)
  obtain rfl := Ex.RStart_is i0
  obtain ⟨vd, rfl, j1⟩ := Ex.ROpD_is i1
  exact Ex.law_join (Ex.rels_cons r0 (Ex.rels_cons r1 (Ex.rels_cons r2 Ex.rels_nil))) (Ex.ends_m j1 ok1 i2)
end Go.Proofs.Ytjkmmbfenhhjkaa
end
