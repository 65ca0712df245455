/- Part 5 of the proof: Mr6, Mr7, Mr8, Mrp, Mrq, Mrs, Mrt, Mru, Mrv, Mrw, Mp1, Mp2, Jrg, Mp3, Mg8, Mg9, Mga, Mp4, Mtn, Mwp, Eq, Mrx. -/
import Derived.Laws.StructEq
import Derived.Test.YtjicijhakcmifaaGreatDoorM4
open Nat renaming reduceAdd → zrA, reduceSub → zrS, reduceMul → zrM, reduceLT → zrL, reduceEqDiff → zrE, reduceLeDiff → zrD, reduceShiftRight → zrR, reduceMod → zrO
open Int renaming reduceLE → ziE, reduceLT → ziL, reduceToNat → ziN
section

set_option linter.unusedSimpArgs false
set_option linter.unusedVariables false
set_option maxRecDepth 10000
set_option maxHeartbeats 4000000
namespace Go.Proofs.YtjicijhakcmifaaGreatDoor.Ex
open Go
theorem WB_forS {P : Program} {T : TT} {S : Sums} {E : FE} {k : List AI} {K : KK} {c : Code} (a n : Nat) (ha : a ≤ n) (Inv : Nat → TM → AH → Prop)
    (step : ∀ i t h, a ≤ i → i < n → ((i : Int) < (n : Int)) = True → Inv i t h → (∀ t' h', Inv (i + 1) t' h' → WB P T S E t' (.lp c :: k) h' K) → WB P T S E t (.code c :: .lp c :: k) h K)
    (leave : ∀ t h, ((n : Int) < (n : Int)) = False → Inv n t h → WB P T S E t (.code c :: .lp c :: k) h K) : ∀ t h, Inv a t h → WB P T S E t (.lp c :: k) h K := by
  intro t h h0
  refine WB_ind (fun (i : Nat) t h => a ≤ i ∧ i ≤ n ∧ Inv i t h) (fun i => n - i) ?_ a t h ⟨Nat.le_refl _, ha, h0⟩
  rintro i t h ⟨ha', hi, hI⟩ ih
  by_cases hlt : i < n
  · exact step i t h ha' hlt (by simp; omega) hI fun t' h' hI' => ih (i + 1) t' h' ⟨by omega, hlt, hI'⟩ (by omega)
  · obtain rfl : i = n := by omega
    exact leave t h (by simp) hI
theorem put_app {a b t vs : List AV} {i : Nat} (h : put a i vs = some b) : put (a ++ t) i vs = some (b ++ t) := by
  unfold put at h ⊢
  split at h
  · rename_i hi
    rw [if_pos (by rw [List.length_append]; omega)]
    cases h
    rw [List.take_append_of_le_length (by omega), List.drop_append_of_le_length (by omega)]
    simp only [List.append_assoc]
  · cases h
section
variable {α : Type} {cf : α → List AV} {z : Nat}
theorem clear_x {T : TT} {h : AH} {t e e' : TypeId} {zv v : AV} {p n i n0 : Nat} {l : List α} {tail : List AV} (hu : und T t = some (.slice e)) (hzv : zeroT T e = some zv) (hzl : zv.cells.length = z) (h1 : zv.cells.all AV.one = true) (hl : ∀ x, (cf x).length = z) (hi : i ≤ n) (hn : l.length = n) (hp0 : n0 ≤ p)
    (hat : h.at p = some (.cells (l.flatMap cf ++ tail) e')) (hv : v = .sl p 0 n (.un z)) : ∃ h' l', clearA T h t (subSl z i n v) = some h' ∧ h'.at p = some (.cells ((l.take i).flatMap cf ++ l') e') ∧ Ext n0 h h' ∧ ∀ c, c ≠ p → h'.at c = h.at c := by
  subst hv
  simp only [zeroT, Option.map_eq_some_iff] at hzv
  obtain ⟨ii, hii, rfl⟩ := hzv
  by_cases hni : n - i = 0
  · refine ⟨h, tail, ?_, ?_, Ext.refl _ _, fun _ _ => rfl⟩
    · unfold clearA
      rw [hu]
      simp only [subSl, hni]
      rfl
    · rw [List.take_of_length_le (by omega)]; exact hat
  · have hb : Nat.beq (n - i) 0 = false := by
      rw [Bool.eq_false_iff]; intro hh; exact hni (Nat.eq_of_beq_eq_true hh)
    have hg : getB h p = some (l.flatMap cf ++ tail, e') := by unfold getB; rw [hat]
    have hall : (rep ii.zero.cells (n - i)).all AV.one = true := by
      generalize n - i = k
      induction k with
      | zero => rfl
      | succ k ih => unfold rep; rw [List.all_append, h1, ih]; rfl
    have hrl : (rep ii.zero.cells (n - i)).length = (n - i) * z := by rw [rep_length, hzl]
    have hil : i * z + (n - i) * z = n * z := by rw [← Nat.add_mul]; congr 1; omega
    have hfl := flatMap_len hl l
    have hti := flatMap_len hl (l.take i)
    rw [List.length_take, Nat.min_eq_left (by omega)] at hti
    have hput : put (l.flatMap cf ++ tail) (i * z) (rep ii.zero.cells (n - i)) = some ((l.take i).flatMap cf ++ (rep ii.zero.cells (n - i) ++ tail)) := by
      unfold put
      rw [if_pos (by rw [hrl, List.length_append, hfl, hn]; omega)]
      congr 1
      have hsp : l.flatMap cf = (l.take i).flatMap cf ++ (l.drop i).flatMap cf := by rw [← List.flatMap_append, List.take_append_drop]
      have t1 : (l.flatMap cf ++ tail).take (i * z) = (l.take i).flatMap cf := by rw [hsp, List.append_assoc, List.take_left' hti]
      have t2 : (l.flatMap cf ++ tail).drop (i * z + (rep ii.zero.cells (n - i)).length) = tail := by rw [hrl, hil, ← hn, ← hfl, List.drop_left' rfl]
      rw [t1, t2, List.append_assoc]
    refine ⟨h.put p (.cells ((l.take i).flatMap cf ++ (rep ii.zero.cells (n - i) ++ tail)) e'), _, ?_, at_put_same _ (at_lt hat), (Ext.refl _ _).put _ hp0, fun c hc => at_put_ne _ (Ne.symm hc)⟩
    unfold clearA
    rw [hu]
    simp only [subSl, hb, hii, hg, hall, cond_false, cond_true, Nat.zero_add, hput]
    rfl
end
section
variable {P : Program} {T : TT} {t : TM} {h : AH} {d : Option Tmp} {ty e : TypeId} {ps : String} {af : Array Edge} {g : Option (Nat × Bool)}
theorem a_clear {i : Nat} {ty' : TypeId} : aop P T ⟨d, .call ⟨.builtin .clear, #[.tmp i], #[ty']⟩, ty, ps, af, g⟩ t h = (clearA T h ty' (t.get i)).map fun h' => (.val (.tup []), h') := rfl
end
theorem indexFT_x {F : Nat → Prop} {H : AH} {v : AV} {xs : List (List UInt8)} {f b : Nat} {p : List UInt8 → Bool} {box : AB} (hv : IsSl RTx F H v xs) (hl : xs.length ≤ 1000000) (hb : H.at b = some box)
    (hf : ∀ h x, h.at b = some box → x ∈ xs → WC Tryz.prog (tabOf Tryz.prog NT0) S0 f [.lit (.string ⟨x.toArray⟩), .ptr b 0] h fun r h' => Ext h.n h h' ∧ r = .lit (.bool (p x))) :
    WC Tryz.prog (tabOf Tryz.prog NT0) S0 52 [v, .fn (.func f) [] [.ptr b 0]] H fun r h' => Ext H.n H h' ∧ r = .lit (.int .i64 (ixF p xs)) := by
  refine WC_fn Tryz.func52 rfl rfl ?_
  have s1 := hv.isSl
  have s2 := hv.lenD
  have s3 := hv.one
  simp only [core, zrA, zrS, zrM, zrL, zrE, reduceCtorEq, zrD, ziE, ziL, ziN, Tryz.ntmps52, s1, s2, s3]
  refine WB_for xs.length (fun i t h => Ext H.n H h ∧ (∀ y ∈ xs.take i, p y = false) ∧ t.n = 19 ∧ t.get 0 = v ∧ t.get 1 = .fn (.func f) [] [.ptr b 0] ∧ t.get 7 = .lit (.int .i64 xs.length) ∧ t.get 8 = .lit (.int .i64 i)) ?_ ?_ _ _ ?_
  · rintro i t h hlt hc ⟨he, hn0, hn, g0, g1, g7, g8⟩ ih
    obtain ⟨x, hx⟩ : ∃ x, xs[i]? = some x := ⟨_, List.getElem?_eq_getElem hlt⟩
    obtain ⟨c, hc1, hld, hld0⟩ := hv.atE (T := tabOf Tryz.prog NT0) he RTx_z hx
    obtain rfl := RTx_is.1 hc1
    have ld0 : loadA (tabOf Tryz.prog NT0) h 9 (slB v) (slO v + i) = some (.lit (.string ⟨x.toArray⟩)) := by
      have ld := hld0 9 1 (by kernel_rfl) (by decide) (by decide)
      rw [Nat.mul_one] at ld
      rw [ld]
      rfl
    have hws := wrap_succ hlt (by omega)
    have hfx := hf h x ((he.2 _ (at_lt hb)).trans hb) (List.mem_of_getElem? hx)
    simp only [core, zrA, zrS, zrM, zrL, zrE, reduceCtorEq, zrD, ziE, ziL, ziN, s1, s2, s3, hn, g0, g1, g7, g8, hlt, hc, ld0, hws]
    refine hfx.mono ?_
    rintro _ h2 ⟨e2, rfl⟩
    have E2 := he.trans (e2.mono he.1)
    cases hq : p x with
    | true =>
      have hd := idx_yes hx hq hn0
      simp only [core, zrA, zrS, zrM, zrL, zrE, reduceCtorEq, zrD, ziE, ziL, ziN, s1, s2, s3, hn, g0, g1, g7, g8, hlt, hc, hws, hq]
      first | exact ⟨E2, by rw [hd]⟩
    | false =>
      simp only [core, zrA, zrS, zrM, zrL, zrE, reduceCtorEq, zrD, ziE, ziL, ziN, s1, s2, s3, hn, g0, g1, g7, g8, hlt, hc, hws, hq]
      refine ih _ _ ⟨E2, take_none hx hq hn0, ?_⟩
      simp only [core, zrA, zrS, zrM, zrL, zrE, reduceCtorEq, zrD, ziE, ziL, ziN, hn, g0, g1, g7, g8]
  · rintro t h hc ⟨he, hn0, hn, g0, g1, g7, g8⟩
    rw [List.take_length] at hn0
    have hd := idx_no hn0
    simp only [core, zrA, zrS, zrM, zrL, zrE, reduceCtorEq, zrD, ziE, ziL, ziN, s1, s2, s3, hn, g0, g1, g7, g8, hc]
    first | exact ⟨he, by rw [hd]⟩
  · refine ⟨Ext.refl _ _, fun y hy => by simp at hy, ?_⟩
    simp only [core, zrA, zrS, zrM, zrL, zrE, reduceCtorEq, zrD, ziE, ziL, ziN]
    try ((repeat' apply And.intro) <;> first | rfl | trivial)
theorem filter_step {α : Type} {p : α → Bool} {xs : List α} {j : Nat} {x : α} (hx : xs[j]? = some x) : (xs.take (j + 1)).filter (fun x => !p x) = (xs.take j).filter (fun x => !p x) ++ bif p x then [] else [x] := by
  obtain ⟨h1, h2⟩ := List.getElem?_eq_some_iff.1 hx
  rw [List.take_succ_eq_append_getElem h1, h2, List.filter_append]
  cases h : p x <;> simp [h]
theorem filter_none {α : Type} {p : α → Bool} {xs : List α} (hn : ∀ y ∈ xs, p y = false) : xs.filter (fun x => !p x) = xs := List.filter_eq_self.2 fun x hx => by rw [hn x hx]; rfl
/-- The state of the work: what is kept, what is not yet looked at. -/
structure DelS {α : Type} (p : α → Bool) (xs l : List α) (i j : Nat) : Prop where
  len : l.length = xs.length
  lt : i < j
  le : j ≤ xs.length
  kept : l.take i = (xs.take j).filter fun x => !p x
  rest : l.drop j = xs.drop j
theorem DelS.get {α : Type} {p : α → Bool} {xs l : List α} {i j : Nat} {x : α} (hs : DelS p xs l i j) (hx : xs[j]? = some x) : l[j]? = some x := by
  have h := congrArg (fun a : List α => a[0]?) hs.rest
  simp only [List.getElem?_drop, Nat.add_zero] at h
  rw [h, hx]
theorem DelS.skip {α : Type} {p : α → Bool} {xs l : List α} {i j : Nat} {x : α} (hs : DelS p xs l i j) (hx : xs[j]? = some x) (hp : p x = true) : DelS p xs l i (j + 1) :=
  ⟨hs.len, by have := hs.lt; omega, by have := (List.getElem?_eq_some_iff.1 hx).1; omega, by rw [hs.kept, filter_step hx, hp]; simp, by
    have h := congrArg (fun a : List α => a.drop 1) hs.rest
    simpa only [List.drop_drop] using h⟩
theorem DelS.keep {α : Type} {p : α → Bool} {xs l : List α} {i j : Nat} {x : α} (hs : DelS p xs l i j) (hx : xs[j]? = some x) (hp : p x = false) : DelS p xs (l.set i x) (i + 1) (j + 1) := by
  have hj := (List.getElem?_eq_some_iff.1 hx).1
  have h1 := hs.lt
  have h2 := hs.len
  refine ⟨by simp [h2], by omega, by omega, ?_, ?_⟩
  · have : (l.set i x)[i]? = some x := by rw [List.getElem?_set_self (by omega)]
    obtain ⟨q1, q2⟩ := List.getElem?_eq_some_iff.1 this
    rw [List.take_succ_eq_append_getElem q1, q2, List.take_set_of_le (Nat.le_refl i), hs.kept, filter_step hx, hp]
    rfl
  · rw [List.drop_set_of_lt (by omega)]
    have h := congrArg (fun a : List α => a.drop 1) hs.rest
    simpa only [List.drop_drop] using h
theorem DelS.first {α : Type} {p : α → Bool} {xs : List α} {k : Nat} (h : xs.findIdx? p = some k) : DelS p xs xs k (k + 1) := by
  obtain ⟨h1, h2, h3⟩ := List.findIdx?_eq_some_iff_getElem.1 h
  refine ⟨rfl, by omega, by omega, ?_, rfl⟩
  rw [filter_step (List.getElem?_eq_getElem h1), h2, filter_none fun y hy => ?_]
  · simp
  · obtain ⟨j, hj, rfl⟩ := List.mem_take_iff_getElem.1 hy
    have := h3 j (by omega)
    simpa using this
theorem DelS.done {α : Type} {p : α → Bool} {xs l : List α} {i : Nat} (hs : DelS p xs l i xs.length) : l.take i = xs.filter fun x => !p x := by
  rw [hs.kept, List.take_length]
theorem deleteFT_x {n0 : Nat} {H : AH} {v : AV} {xs : List (List UInt8)} {f b : Nat} {p : List UInt8 → Bool} {box : AB} (ho : OwnX txC 1 n0 H v 9 xs) (hn0 : n0 ≤ H.n) (hl : xs.length ≤ 1000000) (hb : H.at b = some box) (hb0 : b < n0)
    (hf : ∀ h x, h.at b = some box → x ∈ xs → WC Tryz.prog (tabOf Tryz.prog NT0) S0 f [.lit (.string ⟨x.toArray⟩), .ptr b 0] h fun r h' => Ext h.n h h' ∧ r = .lit (.bool (p x))) :
    WC Tryz.prog (tabOf Tryz.prog NT0) S0 29 [v, .fn (.func f) [] [.ptr b 0]] H fun r h' => Ext n0 H h' ∧ OwnX txC 1 n0 h' r 9 (xs.filter fun x => !p x) ∧ ∀ c, c < H.n → Apart v c → h'.at c = H.at c := by
  refine WC_fn Tryz.func29 rfl rfl ?_
  have s1 := ho.isSl
  have s2 := ho.lenD
  have s3 := ho.one
  simp only [core, zrA, zrS, zrM, zrL, zrE, reduceCtorEq, zrD, ziE, ziL, ziN, Tryz.ntmps29, s1, s2, s3]
  refine (indexFT_x (ho.toSl (F := fun _ => True) flatTx fun _ _ => trivial) hl hb hf).mono ?_
  rintro _ h1 ⟨E1, rfl⟩
  have O1 := ho.ext E1 (Nat.le_refl _)
  have E01 : Ext n0 H h1 := E1.mono hn0
  have lb := at_lt hb
  cases hk : xs.findIdx? p with
  | none =>
    have h0 : ixF p xs = -1 := by unfold ixF; rw [hk]
    have hflt : xs.filter (fun x => !p x) = xs := filter_none (List.findIdx?_eq_none_iff.1 hk)
    have hm1 : ((-1 : Int) == -1) = true := rfl
    simp only [core, zrA, zrS, zrM, zrL, zrE, reduceCtorEq, zrD, ziE, ziL, ziN, h0, s1, s2, s3, hflt, hm1]
    exact ⟨E01, O1, fun c hc _ => E1.2 c hc⟩
  | some k =>
    have h0 : ixF p xs = (k : Int) := by unfold ixF; rw [hk]
    have hD0 := DelS.first hk
    have hkn := hD0.le
    have hkm : ((k : Int) == -1) = false := beq_eq_false_iff_ne.2 (by omega)
    obtain ⟨n, hN⟩ : ∃ n, n = xs.length := ⟨_, rfl⟩
    have w1 : IntKind.i64.wrap ((k : Int) + 1) = ((k + 1 : Nat) : Int) := (wrap_in (by omega) (by omega)).trans (by omega)
    rcases O1 with ⟨rfl, hx0⟩ | ⟨hx0, -⟩ | ⟨q, tail, hq, hv, hat⟩
    · rw [hx0] at hkn; simp at hkn
    · rw [hx0] at hkn; simp at hkn
    have jB : slB v = q := by rw [hv]; rfl
    have jO : slO v = 0 := by rw [hv]; rfl
    have hcap : CapOk 1 v := fun b off n cap e => by rw [hv] at e; cases e; rfl
    rw [← hN] at s2 hv
    simp only [core, zrA, zrS, zrM, zrL, zrE, reduceCtorEq, zrD, ziE, ziL, ziN, h0, s1, s2, s3, hkm, w1]
    refine WB_forS (k + 1) n (by omega) (fun j t h => Ext n0 H h ∧ H.n ≤ h.n ∧ (∀ c, c < H.n → c ≠ q → h.at c = H.at c) ∧ ∃ l i, DelS p xs l i j ∧ h.at q = some (.cells (l.flatMap txC ++ tail) 9) ∧ t.n = 42 ∧ t.get 0 = v ∧ t.get 1 = .fn (.func f) [] [.ptr b 0] ∧ t.get 5 = .lit (.int .i64 i) ∧ t.get 6 = .lit (.int .i64 j)) ?_ ?_ _ _ ?_
    · rintro j t h hkj hlt hc ⟨E, hHn, hK, l, i, hD, A, hn, g0, g1, g5, g6⟩ ih
      obtain ⟨x, hx⟩ : ∃ x, xs[j]? = some x := ⟨_, List.getElem?_eq_getElem (by omega)⟩
      have hlx := hD.get hx
      have hlen := hD.len
      have hij := hD.lt
      have hsl : IsSl RTx (fun _ => True) h v l := OwnX.toSl (n0 := n0) (e := 9) flatTx (.inr (.inr ⟨q, tail, hq, by rw [hv, hlen, hN], A⟩)) fun _ _ => trivial
      obtain ⟨c, hc1, hld, hld0⟩ := hsl.at (T := tabOf Tryz.prog NT0) RTx_z hlx
      obtain rfl := RTx_is.1 hc1
      have ld0 : loadA (tabOf Tryz.prog NT0) h 9 (slB v) (slO v + j) = some (.lit (.string ⟨x.toArray⟩)) := by
        have ld := hld0 9 1 (by kernel_rfl) (by decide) (by decide)
        rw [Nat.mul_one] at ld
        rw [ld]
        rfl
      rw [jB, jO, Nat.zero_add] at ld0
      have hws : IntKind.i64.wrap ((j : Int) + 1) = ((j + 1 : Nat) : Int) := (wrap_in (by omega) (by omega)).trans (by omega)
      have hwi : IntKind.i64.wrap ((i : Int) + 1) = ((i + 1 : Nat) : Int) := (wrap_in (by omega) (by omega)).trans (by omega)
      have hbh : h.at b = some box := (E.2 _ hb0).trans hb
      have hfx := hf h x hbh (List.mem_of_getElem? hx)
      simp only [core, zrA, zrS, zrM, zrL, zrE, reduceCtorEq, zrD, ziE, ziL, ziN, s1, s2, s3, jB, jO, hn, g0, g1, g5, g6, hlt, hc, ld0]
      refine hfx.mono ?_
      rintro _ h2 ⟨e2, rfl⟩
      have A2 := (e2.2 _ (at_lt A)).trans A
      have E2 : Ext n0 H h2 := E.trans (e2.mono (by omega))
      have lA2 := at_lt A2
      have hn2 := e2.1
      cases hq : p x with
      | true =>
        simp only [core, zrA, zrS, zrM, zrL, zrE, reduceCtorEq, zrD, ziE, ziL, ziN, s1, s2, s3, jB, jO, hn, g0, g1, g5, g6, hlt, hc, hws, hq]
        refine ih _ _ ⟨E2, by omega, fun c h1 h2 => (e2.2 c (by omega)).trans (hK c h1 h2), l, i, hD.skip hx hq, A2, ?_⟩
        simp only [core, zrA, zrS, zrM, zrL, zrE, reduceCtorEq, zrD, ziE, ziL, ziN, hn, g0, g1, g5, g6]
      | false =>
        have hput : put (l.flatMap txC ++ tail) i [AV.lit (.string ⟨x.toArray⟩)] = some ((l.set i x).flatMap txC ++ tail) := by
          have := put_app (t := tail) (put_el (cf := txC) (z := 1) (l := l) (i := i) (y := x) (fun _ => rfl) (by omega))
          rw [Nat.mul_one] at this
          exact this
        have hin : i < n := by omega
        simp only [corem, WB_cond_s, put, ldL, WB_label, List.nil_append, List.drop_zero, List.take_zero, zrA, zrS, zrM, zrL, zrE, reduceCtorEq, zrD, ziE, ziL, ziN, -put, s1, s2, s3, jB, jO, hn, g0, g1, g5, g6, hlt, hc, hws, hwi, hq, hin, A2, lA2, hput]
        refine ih _ _ ⟨E2.put _ (by omega), by rw [n_put]; omega, fun c h1 h2 => (at_put_ne _ (Ne.symm h2)).trans ((e2.2 c (by omega)).trans (hK c h1 h2)), l.set i x, i + 1, hD.keep hx hq, at_put_same _ lA2, ?_⟩
        simp only [core, zrA, zrS, zrM, zrL, zrE, reduceCtorEq, zrD, ziE, ziL, ziN, hn, g0, g1, g5, g6]
    · rintro t h hc ⟨E, hHn, hK, l, i, hD, A, hn, g0, g1, g5, g6⟩
      have hlen := hD.len
      have hij := hD.lt
      have y1 : ((0 : Int) ≤ (i : Int)) = True := by simp
      have y2 : ((i : Int) ≤ ((n : Nat) : Int)) = True := by simp; omega
      have y3 : (((n : Nat) : Int) ≤ ((n : Nat) : Int)) = True := by simp
      obtain ⟨h3, l', hclr, A3, E3, K3⟩ := clear_x (T := tabOf Tryz.prog NT0) (t := 25) (e := 9) (zv := .lit (.string ⟨#[]⟩)) (z := 1) (cf := txC) (by kernel_rfl) (by kernel_rfl) rfl rfl (fun _ => rfl) (show i ≤ n by omega) (by omega) hq A hv
      simp only [core, zrA, zrS, zrM, zrL, zrE, reduceCtorEq, zrD, ziE, ziL, ziN, s1, s2, s3, hn, g0, g1, g5, g6, hc, hcap, y1, y2, y3, a_clear, hclr]
      have hdn := (hN ▸ hD : DelS p xs l i xs.length).done
      have hli : i = (xs.filter fun x => !p x).length := by rw [← hdn, List.length_take]; omega
      exact ⟨E.trans E3, .inr (.inr ⟨q, l', hq, by rw [hv, ← hli]; simp [subSl, subCap], by rw [← hdn]; exact A3⟩), fun c h1 h2 => (K3 c fun hh => h2 0 n (.un 1) (by rw [hh]; exact hv)).trans (hK c h1 fun hh => h2 0 n (.un 1) (by rw [hh]; exact hv))⟩
    · refine ⟨E01, E1.1, fun c h1 _ => E1.2 c h1, xs, k, hD0, hat, ?_⟩
      simp only [core, zrA, zrS, zrM, zrL, zrE, reduceCtorEq, zrD, ziE, ziL, ziN, s3]
      try ((repeat' apply And.intro) <;> first | rfl | trivial)
end Go.Proofs.YtjicijhakcmifaaGreatDoor.Ex
end

section

set_option linter.unusedSimpArgs false
set_option linter.unusedVariables false
set_option maxRecDepth 10000
set_option maxHeartbeats 4000000
namespace Go.Proofs.YtjicijhakcmifaaGreatDoor.Ex
open Go
theorem deleteFS_x {n0 : Nat} {H : AH} {v : AV} {xs : List SetD} {f b : Nat} {p : SetD → Bool} {box : AB} (ho : OwnX setC 35 n0 H v 39 xs) (hn0 : n0 ≤ H.n) (hl : xs.length ≤ 1000000) (hb : H.at b = some box) (hb0 : b < n0)
    (hf : ∀ h x, h.at b = some box → x ∈ xs → WC Tryz.prog (tabOf Tryz.prog NT0) S0 f [.agg (setC x), .ptr b 0] h fun r h' => Ext h.n h h' ∧ r = .lit (.bool (p x))) :
    WC Tryz.prog (tabOf Tryz.prog NT0) S0 27 [v, .fn (.func f) [] [.ptr b 0]] H fun r h' => Ext n0 H h' ∧ OwnX setC 35 n0 h' r 39 (xs.filter fun x => !p x) ∧ ∀ c, c < H.n → Apart v c → h'.at c = H.at c := by
  refine WC_fn Tryz.func27 rfl rfl ?_
  have s1 := ho.isSl
  have s2 := ho.lenD
  have s3 := ho.one
  simp only [core, zrA, zrS, zrM, zrL, zrE, reduceCtorEq, zrD, ziE, ziL, ziN, Tryz.ntmps27, s1, s2, s3]
  refine (indexFS_x (ho.toSl (F := fun _ => True) flatSet fun _ _ => trivial) hl fun h x he hx => hf h x ((he.2 _ (at_lt hb)).trans hb) hx).mono ?_
  rintro _ h1 ⟨E1, rfl⟩
  have O1 := ho.ext E1 (Nat.le_refl _)
  have E01 : Ext n0 H h1 := E1.mono hn0
  have lb := at_lt hb
  cases hk : xs.findIdx? p with
  | none =>
    have h0 : ixF p xs = -1 := by unfold ixF; rw [hk]
    have hflt : xs.filter (fun x => !p x) = xs := filter_none (List.findIdx?_eq_none_iff.1 hk)
    have hm1 : ((-1 : Int) == -1) = true := rfl
    simp only [core, zrA, zrS, zrM, zrL, zrE, reduceCtorEq, zrD, ziE, ziL, ziN, h0, s1, s2, s3, hflt, hm1]
    exact ⟨E01, O1, fun c hc _ => E1.2 c hc⟩
  | some k =>
    have h0 : ixF p xs = (k : Int) := by unfold ixF; rw [hk]
    have hD0 := DelS.first hk
    have hkn := hD0.le
    have hkm : ((k : Int) == -1) = false := beq_eq_false_iff_ne.2 (by omega)
    obtain ⟨n, hN⟩ : ∃ n, n = xs.length := ⟨_, rfl⟩
    have w1 : IntKind.i64.wrap ((k : Int) + 1) = ((k + 1 : Nat) : Int) := (wrap_in (by omega) (by omega)).trans (by omega)
    rcases O1 with ⟨rfl, hx0⟩ | ⟨hx0, -⟩ | ⟨q, tail, hq, hv, hat⟩
    · rw [hx0] at hkn; simp at hkn
    · rw [hx0] at hkn; simp at hkn
    have jB : slB v = q := by rw [hv]; rfl
    have jO : slO v = 0 := by rw [hv]; rfl
    have hcap : CapOk 35 v := fun b off n cap e => by rw [hv] at e; cases e; rfl
    rw [← hN] at s2 hv
    simp only [core, zrA, zrS, zrM, zrL, zrE, reduceCtorEq, zrD, ziE, ziL, ziN, h0, s1, s2, s3, hkm, w1]
    refine WB_forS (k + 1) n (by omega) (fun j t h => Ext n0 H h ∧ H.n ≤ h.n ∧ (∀ c, c < H.n → c ≠ q → h.at c = H.at c) ∧ ∃ l i, DelS p xs l i j ∧ h.at q = some (.cells (l.flatMap setC ++ tail) 39) ∧ t.n = 42 ∧ t.get 0 = v ∧ t.get 1 = .fn (.func f) [] [.ptr b 0] ∧ t.get 5 = .lit (.int .i64 i) ∧ t.get 6 = .lit (.int .i64 j)) ?_ ?_ _ _ ?_
    · rintro j t h hkj hlt hc ⟨E, hHn, hK, l, i, hD, A, hn, g0, g1, g5, g6⟩ ih
      obtain ⟨x, hx⟩ : ∃ x, xs[j]? = some x := ⟨_, List.getElem?_eq_getElem (by omega)⟩
      have hlx := hD.get hx
      have hlen := hD.len
      have hij := hD.lt
      have hsl : IsSl RSet (fun _ => True) h v l := OwnX.toSl (n0 := n0) (e := 39) flatSet (.inr (.inr ⟨q, tail, hq, by rw [hv, hlen, hN], A⟩)) fun _ _ => trivial
      obtain ⟨c, hc1, hld, hld0⟩ := hsl.at (T := tabOf Tryz.prog NT0) RSet_z hlx
      obtain rfl := RSet_is.1 hc1
      have ld0 : loadA (tabOf Tryz.prog NT0) h 39 (slB v) (slO v + j * 35) = some (.agg (setC x)) := (hld0 39 35 (by kernel_rfl) (by decide) (by decide)).trans rfl
      rw [jB, jO, Nat.zero_add] at ld0
      obtain ⟨hA, hhA⟩ : ∃ hA, hA = h.push (.cells (setC x) 39) := ⟨_, rfl⟩
      have eA : Ext h.n h hA := hhA ▸ (Ext.refl _ _).push _ (Nat.le_refl _)
      have XA : hA.at h.n = some (.cells (setC x) 39) := hhA ▸ at_push_n _ _
      have EA := E.trans (eA.mono (by omega))
      have AA := (eA.2 _ (at_lt A)).trans A
      have LXA : loadA (tabOf Tryz.prog NT0) hA 39 h.n 0 = some (.agg (setC x)) := (ld_at (T := tabOf Tryz.prog NT0) XA _ _).trans rfl
      have lXA := at_lt XA
      have hws : IntKind.i64.wrap ((j : Int) + 1) = ((j + 1 : Nat) : Int) := (wrap_in (by omega) (by omega)).trans (by omega)
      have hwi : IntKind.i64.wrap ((i : Int) + 1) = ((i + 1 : Nat) : Int) := (wrap_in (by omega) (by omega)).trans (by omega)
      have hbh : hA.at b = some box := (EA.2 _ hb0).trans hb
      have hfx := hf hA x hbh (List.mem_of_getElem? hx)
      have hput : put (l.flatMap setC ++ tail) (i * 35) (setC x) = some ((l.set i x).flatMap setC ++ tail) := put_app (put_el (cf := setC) (z := 35) (fun _ => rfl) (by omega))
      unfold setC at ld0 hhA XA LXA hfx
      simp only [core, zrA, zrS, zrM, zrL, zrE, reduceCtorEq, zrD, ziE, ziL, ziN, s1, s2, s3, jB, jO, hn, g0, g1, g5, g6, hlt, hc, ld0, ← hhA, LXA, lXA]
      refine hfx.mono ?_
      rintro _ h2 ⟨e2, rfl⟩
      have A2 := (e2.2 _ (at_lt AA)).trans AA
      have X2 := (e2.2 _ lXA).trans XA
      have E2 : Ext n0 H h2 := EA.trans (e2.mono (by have := eA.1; omega))
      have lA2 := at_lt A2
      have hn2 := e2.1
      have hnA := eA.1
      cases hp : p x with
      | true =>
        simp only [core, zrA, zrS, zrM, zrL, zrE, reduceCtorEq, zrD, ziE, ziL, ziN, s1, s2, s3, jB, jO, hn, g0, g1, g5, g6, hlt, hc, hws, hp]
        refine ih _ _ ⟨E2, by omega, fun c h1 h2 => (e2.2 c (by omega)).trans ((eA.2 c (by omega)).trans (hK c h1 h2)), l, i, hD.skip hx hp, A2, ?_⟩
        simp only [core, zrA, zrS, zrM, zrL, zrE, reduceCtorEq, zrD, ziE, ziL, ziN, hn, g0, g1, g5, g6]
      | false =>
        have hin : i < n := by omega
        have lX2 := at_lt X2
        have LX2 := ld_at (T := tabOf Tryz.prog NT0) X2
        rw [setC.eq_1 x] at hput
        simp only [corem, WB_cond_s, put, ldL, WB_label, List.nil_append, List.drop_zero, List.take_zero, zrA, zrS, zrM, zrL, zrE, reduceCtorEq, zrD, ziE, ziL, ziN, -put, s1, s2, s3, jB, jO, hn, g0, g1, g5, g6, hlt, hc, hws, hwi, hp, hin, LX2, lX2, A2, lA2, hput]
        refine ih _ _ ⟨E2.put _ (by omega), by rw [n_put]; omega, fun c h1 h2 => (at_put_ne _ (Ne.symm h2)).trans ((e2.2 c (by omega)).trans ((eA.2 c (by omega)).trans (hK c h1 h2))), l.set i x, i + 1, hD.keep hx hp, at_put_same _ lA2, ?_⟩
        simp only [core, zrA, zrS, zrM, zrL, zrE, reduceCtorEq, zrD, ziE, ziL, ziN, hn, g0, g1, g5, g6]
    · rintro t h hc ⟨E, hHn, hK, l, i, hD, A, hn, g0, g1, g5, g6⟩
      have hlen := hD.len
      have hij := hD.lt
      have y1 : ((0 : Int) ≤ (i : Int)) = True := by simp
      have y2 : ((i : Int) ≤ ((n : Nat) : Int)) = True := by simp; omega
      have y3 : (((n : Nat) : Int) ≤ ((n : Nat) : Int)) = True := by simp
      obtain ⟨h3, l', hclr, A3, E3, K3⟩ := clear_x (T := tabOf Tryz.prog NT0) (t := 24) (e := 39) (zv := .agg (setC set0)) (z := 35) (cf := setC) (by kernel_rfl) (by kernel_rfl) rfl rfl (fun _ => rfl) (show i ≤ n by omega) (by omega) hq A hv
      simp only [core, zrA, zrS, zrM, zrL, zrE, reduceCtorEq, zrD, ziE, ziL, ziN, s1, s2, s3, hn, g0, g1, g5, g6, hc, hcap, y1, y2, y3, a_clear, hclr]
      have hdn := (hN ▸ hD : DelS p xs l i xs.length).done
      have hli : i = (xs.filter fun x => !p x).length := by rw [← hdn, List.length_take]; omega
      exact ⟨E.trans E3, .inr (.inr ⟨q, l', hq, by rw [hv, ← hli]; simp [subSl, subCap], by rw [← hdn]; exact A3⟩), fun c h1 h2 => (K3 c fun hh => h2 0 n (.un 35) (by rw [hh]; exact hv)).trans (hK c h1 fun hh => h2 0 n (.un 35) (by rw [hh]; exact hv))⟩
    · refine ⟨E01, E1.1, fun c h1 _ => E1.2 c h1, xs, k, hD0, hat, ?_⟩
      simp only [core, zrA, zrS, zrM, zrL, zrE, reduceCtorEq, zrD, ziE, ziL, ziN, s3]
      try ((repeat' apply And.intro) <;> first | rfl | trivial)
end Go.Proofs.YtjicijhakcmifaaGreatDoor.Ex
end

section

set_option linter.unusedSimpArgs false
set_option linter.unusedVariables false
set_option maxRecDepth 10000
set_option maxHeartbeats 4000000
namespace Go.Proofs.YtjicijhakcmifaaGreatDoor.Ex
open Go
/-- A root in the heap, its rows the run's own. -/
def OwnR (n0 : Nat) (h : AH) (v : AV) (r : RootD) : Prop := ∃ a b, v = .agg [a, b] ∧ OwnX setC 35 n0 h a 39 r.live ∧ OwnX txC 1 n0 h b 9 r.ops
def root0 : RootD := ⟨[], []⟩
theorem OwnR.zero {n0 : Nat} {h : AH} : OwnR n0 h (.agg [.lit (.slice none 0 0), .lit (.slice none 0 0)]) root0 := ⟨_, _, rfl, .inl ⟨rfl, rfl⟩, .inl ⟨rfl, rfl⟩⟩
theorem OwnR.mono {n0 n1 : Nat} {h : AH} {v : AV} {r : RootD} (ho : OwnR n0 h v r) (hn : n1 ≤ n0) : OwnR n1 h v r := by
  obtain ⟨a, b, h1, h2, h3⟩ := ho
  exact ⟨a, b, h1, h2.mono hn, h3.mono hn⟩
theorem OwnR.ext {n0 m : Nat} {h h' : AH} {v : AV} {r : RootD} (ho : OwnR n0 h v r) (he : Ext m h h') (hm : h.n ≤ m) : OwnR n0 h' v r := by
  obtain ⟨a, b, h1, h2, h3⟩ := ho
  exact ⟨a, b, h1, h2.ext he hm, h3.ext he hm⟩
theorem close1_x {H : AH} {b : Nat} {id x : List UInt8} (hb : H.at b = some (.cells [.lit (.string ⟨id.toArray⟩)] 9)) :
    WC Tryz.prog (tabOf Tryz.prog NT0) S0 30 [.lit (.string ⟨x.toArray⟩), .ptr b 0] H fun r h' => Ext H.n H h' ∧ r = .lit (.bool (x == id)) := by
  refine WC_fn Tryz.func30 rfl rfl ?_
  have L2 := ld_at (T := tabOf Tryz.prog NT0) hb
  have l2 := at_lt hb
  simp only [core, zrA, zrS, zrM, zrL, zrE, reduceCtorEq, zrD, ziE, ziL, ziN, Tryz.ntmps30, L2, l2, pur_seq]
  first | exact ⟨Ext.refl _ _, rfl⟩ | exact Ext.refl _ _
theorem delete1_x {H : AH} {b : Nat} {name : List UInt8} (x : SetD) (hb : H.at b = some (.cells [.lit (.string ⟨name.toArray⟩)] 9)) :
    WC Tryz.prog (tabOf Tryz.prog NT0) S0 28 [.agg (setC x), .ptr b 0] H fun r h' => Ext H.n H h' ∧ r = .lit (.bool (x.name == name)) := by
  refine WC_fn Tryz.func28 rfl rfl ?_
  have lb := at_lt hb
  obtain ⟨h0, hh0⟩ : ∃ h0, h0 = H.push (.cells (setC x) 39) := ⟨_, rfl⟩
  have E0 : Ext H.n H h0 := hh0 ▸ (Ext.refl _ _).push _ (Nat.le_refl _)
  have A1 : h0.at H.n = some (.cells (setC x) 39) := hh0 ▸ at_push_n _ _
  have A2 := (E0.2 _ lb).trans hb
  unfold setC at hh0 A1
  have L1 := ld_at (T := tabOf Tryz.prog NT0) A1
  have L2 := ld_at (T := tabOf Tryz.prog NT0) A2
  have l1 := at_lt A1
  have l2 := at_lt A2
  simp only [core, zrA, zrS, zrM, zrL, zrE, reduceCtorEq, zrD, ziE, ziL, ziN, Tryz.ntmps28, setC, ← hh0, L1, L2, l1, l2, pur_seq]
  first | exact ⟨E0, rfl⟩ | exact E0
def closeF (r : RootD) (id : List UInt8) : RootD × Bool := if chkF r = 0 ∧ (r.ops.any fun x => id == x) = true then (⟨r.live, r.ops.filter fun x => !(x == id)⟩, true) else (root0, false)
theorem Close_x {F : Nat → Prop} {H : AH} {vl vo : AV} {r : RootD} {id : List UInt8} (hl : IsSl RSet F H vl r.live) (ho : IsSl RTx F H vo r.ops) (hr : RLen r) :
    WC Tryz.prog (tabOf Tryz.prog NT0) S0 8 [.agg [vl, vo], .lit (.string ⟨id.toArray⟩)] H fun v h' => Ext H.n H h' ∧ ∃ u, v = .tup [u, .lit (.bool (closeF r id).2)] ∧ OwnR H.n h' u (closeF r id).1 := by
  refine WC_fn Tryz.func8 rfl rfl ?_
  have l1 := hl.one
  have l2 := hl.isSl
  have o1 := ho.one
  have o2 := ho.isSl
  obtain ⟨hp, hhp⟩ : ∃ hp, hp = H.push (.cells [vl, vo] 27) := ⟨_, rfl⟩
  obtain ⟨hq, hhq⟩ : ∃ hq, hq = hp.push (.cells [.lit (.string ⟨id.toArray⟩)] 9) := ⟨_, rfl⟩
  obtain ⟨hs, hhs⟩ : ∃ hs, hs = hq.push (.cells [.lit (.slice none 0 0), .lit (.slice none 0 0)] 27) := ⟨_, rfl⟩
  have EP : Ext H.n H hp := hhp ▸ (Ext.refl _ _).push _ (Nat.le_refl _)
  have EQ : Ext hp.n hp hq := hhq ▸ (Ext.refl _ _).push _ (Nat.le_refl _)
  have ES : Ext hq.n hq hs := hhs ▸ (Ext.refl _ _).push _ (Nat.le_refl _)
  have nP : hp.n = H.n + 1 := by rw [hhp, n_push]
  have nQ : hq.n = H.n + 2 := by rw [hhq, n_push, nP]
  have nS : hs.n = H.n + 3 := by rw [hhs, n_push, nQ]
  have P0 : hp.at H.n = some (.cells [vl, vo] 27) := hhp ▸ at_push_n _ _
  have Q0 : hq.at hp.n = some (.cells [.lit (.string ⟨id.toArray⟩)] 9) := hhq ▸ at_push_n _ _
  have S0 : hs.at hq.n = some (.cells [.lit (.slice none 0 0), .lit (.slice none 0 0)] 27) := hhs ▸ at_push_n _ _
  have P1 := (ES.2 _ (by omega)).trans ((EQ.2 _ (at_lt P0)).trans P0)
  have Q1 := (ES.2 _ (at_lt Q0)).trans Q0
  have LP := ld_at (T := tabOf Tryz.prog NT0) P1
  have lP := at_lt P1
  have E0 := EP.trans ((EQ.trans (ES.mono EQ.1)).mono EP.1)
  simp only [core, zrA, zrS, zrM, zrL, zrE, reduceCtorEq, zrD, ziE, ziL, ziN, Tryz.ntmps8, l1, l2, o1, o2, ← hhp, ← hhq, ← hhs, LP, lP]
  refine (CheckRoot_x (hl.ext E0 (Nat.le_refl _)) (ho.ext E0 (Nat.le_refl _)) hr.o hr.s).mono ?_
  rintro _ h2 ⟨E2, rfl⟩
  have m2 := E2.1
  have E02 := E0.trans (E2.mono E0.1)
  have P2 := (E2.2 _ lP).trans P1
  have Q2 := (E2.2 _ (at_lt Q1)).trans Q1
  have S2 := (E2.2 _ (at_lt S0)).trans S0
  have lS2 := at_lt S2
  have bad : ∀ h4 : AH, Ext H.n H h4 → h4.at hq.n = some (.cells [.lit (.slice none 0 0), .lit (.slice none 0 0)] 27) → closeF r id = (root0, false) →
      ∃ h5, h5 = h4.put hq.n (.cells [.lit (.slice none 0 0), .lit (.slice none 0 0)] 27) ∧ Ext H.n H h5 ∧ (∀ e i, loadA (tabOf Tryz.prog NT0) h5 e hq.n i = ldL (tabOf Tryz.prog NT0) e [.lit (.slice none 0 0), .lit (.slice none 0 0)] i) ∧ hq.n < h5.n := fun h4 e4 a4 hcl =>
    ⟨_, rfl, e4.put _ (by omega), ld_at (at_put_same _ (at_lt a4)), by rw [n_put]; exact at_lt a4⟩
  cases hk : decide (chkF r = 0) with
  | false =>
    have hb : (chkF r != 0) = true := by rw [bne, beq_eq_false_iff_ne.2 (of_decide_eq_false hk)]; rfl
    have hkn : closeF r id = (root0, false) := by unfold closeF; rw [if_neg fun hh => of_decide_eq_false hk hh.1]
    obtain ⟨h5, hh5, E5, L5, l5⟩ := bad h2 E02 S2 hkn
    simp only [core, zrA, zrS, zrM, zrL, zrE, reduceCtorEq, zrD, ziE, ziL, ziN, aundef, hb, hkn, S2, lS2, ← hh5, L5, l5]
    exact ⟨E5, _, rfl, OwnR.zero⟩
  | true =>
  have hc := of_decide_eq_true hk
  have hb : (chkF r != 0) = false := by rw [hc]; rfl
  obtain ⟨n1, n2⟩ := chk_len hc
  have LP2 := ld_at (T := tabOf Tryz.prog NT0) P2
  have lP2 := at_lt P2
  have LQ2 := ld_at (T := tabOf Tryz.prog NT0) Q2
  have lQ2 := at_lt Q2
  simp only [core, zrA, zrS, zrM, zrL, zrE, reduceCtorEq, zrD, ziE, ziL, ziN, aundef, hb, LP2, lP2, LQ2, lQ2, o1, o2]
  refine (containsT_x (ho.ext E02 (Nat.le_refl _)) (by omega)).mono ?_
  rintro _ h3 ⟨E3, rfl⟩
  have m3 := E3.1
  have E03 := E02.trans (E3.mono E02.1)
  have P3 := (E3.2 _ lP2).trans P2
  have Q3 := (E3.2 _ lQ2).trans Q2
  have S3 := (E3.2 _ lS2).trans S2
  have LP3 := ld_at (T := tabOf Tryz.prog NT0) P3
  have lP3 := at_lt P3
  have lS3 := at_lt S3
  have lQ3 := at_lt Q3
  cases hm : r.ops.any (fun x => id == x) with
  | false =>
    have hkn : closeF r id = (root0, false) := by unfold closeF; rw [if_neg fun hh => by rw [hm] at hh; cases hh.2]
    obtain ⟨h5, hh5, E5, L5, l5⟩ := bad h3 E03 S3 hkn
    simp only [core, zrA, zrS, zrM, zrL, zrE, reduceCtorEq, zrD, ziE, ziL, ziN, aundef, hkn, S3, lS3, ← hh5, L5, l5]
    exact ⟨E5, _, rfl, OwnR.zero⟩
  | true =>
  have hkn : closeF r id = (⟨r.live, r.ops.filter fun x => !(x == id)⟩, true) := by unfold closeF; rw [if_pos ⟨hc, hm⟩]
  simp only [core, zrA, zrS, zrM, zrL, zrE, reduceCtorEq, zrD, ziE, ziL, ziN, aundef, LP3, lP3, l1, l2, o1, o2]
  refine (clone_x (hl.ext E03 (Nat.le_refl _)) (ho.ext E03 (Nat.le_refl _)) (by omega) (by omega)).mono ?_
  rintro _ h4 ⟨E4, a, b, rfl, oa, ob⟩
  have m4 := E4.1
  have P4 := (E4.2 _ lP3).trans P3
  have Q4 := (E4.2 _ lQ3).trans Q3
  have S4 := (E4.2 _ lS3).trans S3
  have lP4 := at_lt P4
  have a1 := oa.one
  have a2 := oa.isSl
  have b1 := ob.one
  have b2 := ob.isSl
  obtain ⟨h5, hh5⟩ : ∃ h5, h5 = h4.put H.n (.cells [a, b] 27) := ⟨_, rfl⟩
  have E04 := E03.trans (E4.mono E03.1)
  have E05 : Ext H.n H h5 := hh5 ▸ E04.put _ (Nat.le_refl _)
  have n5 : h5.n = h4.n := by rw [hh5, n_put]
  have P5 : h5.at H.n = some (.cells [a, b] 27) := hh5 ▸ at_put_same _ lP4
  have Q5 : h5.at hp.n = _ := (hh5 ▸ at_put_ne _ (by omega) : h5.at hp.n = h4.at hp.n).trans Q4
  have S5 : h5.at hq.n = _ := (hh5 ▸ at_put_ne _ (by omega) : h5.at hq.n = h4.at hq.n).trans S4
  have oa5 : OwnX setC 35 h3.n h5 a 39 r.live := hh5 ▸ oa.putLt (by omega)
  have ob5 : OwnX txC 1 h3.n h5 b 9 r.ops := hh5 ▸ ob.putLt (by omega)
  have LP5 := ld_at (T := tabOf Tryz.prog NT0) P5
  have lP5 := at_lt P5
  simp only [core, zrA, zrS, zrM, zrL, zrE, reduceCtorEq, zrD, ziE, ziL, ziN, P4, lP4, a1, a2, b1, b2, ← hh5, LP5, lP5]
  refine (deleteFT_x ob5 (by omega) (by omega) Q5 (by omega) fun h x hb _ => close1_x hb).mono ?_
  rintro w h6 ⟨E6, ow, K6⟩
  have P6 := (E6.2 _ (by omega)).trans P5
  have S6 := (E6.2 _ (by omega)).trans S5
  have lP6 := at_lt P6
  have lS6 := at_lt S6
  have w1 := ow.one
  have w2 := ow.isSl
  have oa6 : OwnX setC 35 h3.n h6 a 39 r.live := oa5.keep fun c off n cap hv => K6 c (oa5.blk hv).1 (oa5.sep ob5 (by decide) hv)
  obtain ⟨h7, hh7⟩ : ∃ h7, h7 = h6.put H.n (.cells [a, w] 27) := ⟨_, rfl⟩
  have E06 := E05.trans (E6.mono (by omega))
  have E07 : Ext H.n H h7 := hh7 ▸ E06.put _ (Nat.le_refl _)
  have P7 : h7.at H.n = some (.cells [a, w] 27) := hh7 ▸ at_put_same _ lP6
  have S7 : h7.at hq.n = _ := (hh7 ▸ at_put_ne _ (by omega) : h7.at hq.n = h6.at hq.n).trans S6
  have LP7 := ld_at (T := tabOf Tryz.prog NT0) P7
  have lP7 := at_lt P7
  have lS7 := at_lt S7
  obtain ⟨h8, hh8⟩ : ∃ h8, h8 = h7.put hq.n (.cells [a, w] 27) := ⟨_, rfl⟩
  have E08 : Ext H.n H h8 := hh8 ▸ E07.put _ (by omega)
  have S8 : h8.at hq.n = some (.cells [a, w] 27) := hh8 ▸ at_put_same _ lS7
  have LS8 := ld_at (T := tabOf Tryz.prog NT0) S8
  have lS8 := at_lt S8
  simp only [core, zrA, zrS, zrM, zrL, zrE, reduceCtorEq, zrD, ziE, ziL, ziN, P6, lP6, a1, a2, w1, w2, ← hh7, LP7, lP7, S7, lS7, ← hh8, LS8, lS8]
  rw [hkn]
  exact ⟨E08, _, rfl, a, w, rfl, (hh8 ▸ (hh7 ▸ oa6.putLt (by omega) : OwnX setC 35 h3.n h7 a 39 r.live).putLt (by omega) : OwnX setC 35 h3.n h8 a 39 r.live).mono (by omega),
    (hh8 ▸ (hh7 ▸ ow.putLt (by omega) : OwnX txC 1 h3.n h7 w 9 _).putLt (by omega) : OwnX txC 1 h3.n h8 w 9 _).mono (by omega)⟩
def deleteF (r : RootD) (name : List UInt8) : RootD × Int := if chkF r = 0 then (if mGood name = true then (if (findF r name).isSome = true then (⟨r.live.filter fun s => !(s.name == name), r.ops⟩, 0) else (root0, 2)) else (root0, 36)) else (root0, chkF r)
theorem Delete_x {F : Nat → Prop} {H : AH} {vl vo : AV} {r : RootD} {name : List UInt8} (hl : IsSl RSet F H vl r.live) (ho : IsSl RTx F H vo r.ops) (hr : RLen r) (hn : name.length ≤ 4611686018427387000) :
    WC Tryz.prog (tabOf Tryz.prog NT0) S0 7 [.agg [vl, vo], .lit (.string ⟨name.toArray⟩)] H fun v h' => Ext H.n H h' ∧ ∃ u, v = .tup [u, .lit (.int .i64 (deleteF r name).2)] ∧ OwnR H.n h' u (deleteF r name).1 := by
  refine WC_fn Tryz.func7 rfl rfl ?_
  have l1 := hl.one
  have l2 := hl.isSl
  have o1 := ho.one
  have o2 := ho.isSl
  obtain ⟨hp, hhp⟩ : ∃ hp, hp = H.push (.cells [vl, vo] 27) := ⟨_, rfl⟩
  obtain ⟨hq, hhq⟩ : ∃ hq, hq = hp.push (.cells [.lit (.string ⟨name.toArray⟩)] 9) := ⟨_, rfl⟩
  obtain ⟨hs, hhs⟩ : ∃ hs, hs = hq.push (.cells [.lit (.slice none 0 0), .lit (.slice none 0 0)] 27) := ⟨_, rfl⟩
  have EP : Ext H.n H hp := hhp ▸ (Ext.refl _ _).push _ (Nat.le_refl _)
  have EQ : Ext hp.n hp hq := hhq ▸ (Ext.refl _ _).push _ (Nat.le_refl _)
  have ES : Ext hq.n hq hs := hhs ▸ (Ext.refl _ _).push _ (Nat.le_refl _)
  have nP : hp.n = H.n + 1 := by rw [hhp, n_push]
  have nQ : hq.n = H.n + 2 := by rw [hhq, n_push, nP]
  have nS : hs.n = H.n + 3 := by rw [hhs, n_push, nQ]
  have P0 : hp.at H.n = some (.cells [vl, vo] 27) := hhp ▸ at_push_n _ _
  have Q0 : hq.at hp.n = some (.cells [.lit (.string ⟨name.toArray⟩)] 9) := hhq ▸ at_push_n _ _
  have S0 : hs.at hq.n = some (.cells [.lit (.slice none 0 0), .lit (.slice none 0 0)] 27) := hhs ▸ at_push_n _ _
  have P1 := (ES.2 _ (by omega)).trans ((EQ.2 _ (at_lt P0)).trans P0)
  have Q1 := (ES.2 _ (at_lt Q0)).trans Q0
  have LP := ld_at (T := tabOf Tryz.prog NT0) P1
  have lP := at_lt P1
  have E0 := EP.trans ((EQ.trans (ES.mono EQ.1)).mono EP.1)
  simp only [core, zrA, zrS, zrM, zrL, zrE, reduceCtorEq, zrD, ziE, ziL, ziN, Tryz.ntmps7, l1, l2, o1, o2, ← hhp, ← hhq, ← hhs, LP, lP]
  refine (CheckRoot_x (hl.ext E0 (Nat.le_refl _)) (ho.ext E0 (Nat.le_refl _)) hr.o hr.s).mono ?_
  rintro _ h2 ⟨E2, rfl⟩
  have m2 := E2.1
  have E02 := E0.trans (E2.mono E0.1)
  have P2 := (E2.2 _ lP).trans P1
  have Q2 := (E2.2 _ (at_lt Q1)).trans Q1
  have S2 := (E2.2 _ (at_lt S0)).trans S0
  have lS2 := at_lt S2
  have bad : ∀ h4 : AH, Ext H.n H h4 → h4.at hq.n = some (.cells [.lit (.slice none 0 0), .lit (.slice none 0 0)] 27) →
      ∃ h5, h5 = h4.put hq.n (.cells [.lit (.slice none 0 0), .lit (.slice none 0 0)] 27) ∧ Ext H.n H h5 ∧ (∀ e i, loadA (tabOf Tryz.prog NT0) h5 e hq.n i = ldL (tabOf Tryz.prog NT0) e [.lit (.slice none 0 0), .lit (.slice none 0 0)] i) ∧ hq.n < h5.n := fun h4 e4 a4 =>
    ⟨_, rfl, e4.put _ (by omega), ld_at (at_put_same _ (at_lt a4)), by rw [n_put]; exact at_lt a4⟩
  cases hk : decide (chkF r = 0) with
  | false =>
    have hb : (chkF r != 0) = true := by rw [bne, beq_eq_false_iff_ne.2 (of_decide_eq_false hk)]; rfl
    have hkn : deleteF r name = (root0, chkF r) := by unfold deleteF; rw [if_neg (of_decide_eq_false hk)]
    obtain ⟨h5, hh5, E5, L5, l5⟩ := bad h2 E02 S2
    simp only [core, zrA, zrS, zrM, zrL, zrE, reduceCtorEq, zrD, ziE, ziL, ziN, aundef, hb, hkn, S2, lS2, ← hh5, L5, l5]
    exact ⟨E5, _, rfl, OwnR.zero⟩
  | true =>
  have hc := of_decide_eq_true hk
  have hb : (chkF r != 0) = false := by rw [hc]; rfl
  obtain ⟨n1, n2⟩ := chk_len hc
  have LP2 := ld_at (T := tabOf Tryz.prog NT0) P2
  have lP2 := at_lt P2
  have LQ2 := ld_at (T := tabOf Tryz.prog NT0) Q2
  have lQ2 := at_lt Q2
  simp only [core, zrA, zrS, zrM, zrL, zrE, reduceCtorEq, zrD, ziE, ziL, ziN, aundef, hb, LP2, lP2, LQ2, lQ2, o1, o2, l1, l2]
  refine (Find_x (hl.ext E02 (Nat.le_refl _)) (ho.ext E02 (Nat.le_refl _)) hr).mono ?_
  rintro _ h3 ⟨E3, rfl⟩
  have m3 := E3.1
  have E03 := E02.trans (E3.mono E02.1)
  have P3 := (E3.2 _ lP2).trans P2
  have Q3 := (E3.2 _ lQ2).trans Q2
  have S3 := (E3.2 _ lS2).trans S2
  obtain ⟨y, hy⟩ : ∃ y, y = (findF r name).getD set0 := ⟨_, rfl⟩
  obtain ⟨hA, hhA⟩ : ∃ hA, hA = h3.push (.cells (setC y) 39) := ⟨_, rfl⟩
  have eA : Ext h3.n h3 hA := hhA ▸ (Ext.refl _ _).push _ (Nat.le_refl _)
  have nA : hA.n = h3.n + 1 := by rw [hhA, n_push]
  have PA := (eA.2 _ (at_lt P3)).trans P3
  have QA := (eA.2 _ (at_lt Q3)).trans Q3
  have SA := (eA.2 _ (at_lt S3)).trans S3
  have EA := E03.trans (eA.mono E03.1)
  have LQA := ld_at (T := tabOf Tryz.prog NT0) QA
  have lQA := at_lt QA
  have lSA := at_lt SA
  rw [← hy]
  unfold setC at hhA ⊢
  simp only [core, zrA, zrS, zrM, zrL, zrE, reduceCtorEq, zrD, ziE, ziL, ziN, ← hhA, LQA, lQA]
  refine (mgood_x hn).mono ?_
  rintro _ h4 ⟨rfl, q5⟩
  replace q5 := q5.symm
  subst q5
  cases hg : mGood name with
  | false =>
    have hkn : deleteF r name = (root0, 36) := by unfold deleteF; rw [if_pos hc, if_neg (by rw [hg]; decide)]
    obtain ⟨h5, hh5, E5, L5, l5⟩ := bad hA EA SA
    simp only [core, zrA, zrS, zrM, zrL, zrE, reduceCtorEq, zrD, ziE, ziL, ziN, aundef, hg, hkn, SA, lSA, ← hh5, L5, l5]
    exact ⟨E5, _, rfl, OwnR.zero⟩
  | true =>
  cases hm : (findF r name).isSome with
  | false =>
    have hkn : deleteF r name = (root0, 2) := by unfold deleteF; rw [if_pos hc, if_pos hg, if_neg (by rw [hm]; decide)]
    obtain ⟨h5, hh5, E5, L5, l5⟩ := bad hA EA SA
    simp only [core, zrA, zrS, zrM, zrL, zrE, reduceCtorEq, zrD, ziE, ziL, ziN, aundef, hg, hm, hkn, SA, lSA, ← hh5, L5, l5]
    exact ⟨E5, _, rfl, OwnR.zero⟩
  | true =>
  have hkn : deleteF r name = (⟨r.live.filter fun s => !(s.name == name), r.ops⟩, 0) := by unfold deleteF; rw [if_pos hc, if_pos hg, if_pos hm]
  have LPA := ld_at (T := tabOf Tryz.prog NT0) PA
  have lPA := at_lt PA
  simp only [core, zrA, zrS, zrM, zrL, zrE, reduceCtorEq, zrD, ziE, ziL, ziN, aundef, hg, hm, LPA, lPA, l1, l2, o1, o2]
  refine (clone_x (hl.ext EA (Nat.le_refl _)) (ho.ext EA (Nat.le_refl _)) (by omega) (by omega)).mono ?_
  rintro _ h4 ⟨E4, a, b, rfl, oa, ob⟩
  have m4 := E4.1
  have P4 := (E4.2 _ lPA).trans PA
  have Q4 := (E4.2 _ lQA).trans QA
  have S4 := (E4.2 _ lSA).trans SA
  have lP4 := at_lt P4
  have a1 := oa.one
  have a2 := oa.isSl
  have b1 := ob.one
  have b2 := ob.isSl
  obtain ⟨h5, hh5⟩ : ∃ h5, h5 = h4.put H.n (.cells [a, b] 27) := ⟨_, rfl⟩
  have E04 := EA.trans (E4.mono EA.1)
  have E05 : Ext H.n H h5 := hh5 ▸ E04.put _ (Nat.le_refl _)
  have n5 : h5.n = h4.n := by rw [hh5, n_put]
  have P5 : h5.at H.n = some (.cells [a, b] 27) := hh5 ▸ at_put_same _ lP4
  have Q5 : h5.at hp.n = _ := (hh5 ▸ at_put_ne _ (by omega) : h5.at hp.n = h4.at hp.n).trans Q4
  have S5 : h5.at hq.n = _ := (hh5 ▸ at_put_ne _ (by omega) : h5.at hq.n = h4.at hq.n).trans S4
  have oa5 : OwnX setC 35 hA.n h5 a 39 r.live := hh5 ▸ oa.putLt (by omega)
  have ob5 : OwnX txC 1 hA.n h5 b 9 r.ops := hh5 ▸ ob.putLt (by omega)
  have LP5 := ld_at (T := tabOf Tryz.prog NT0) P5
  have lP5 := at_lt P5
  simp only [core, zrA, zrS, zrM, zrL, zrE, reduceCtorEq, zrD, ziE, ziL, ziN, P4, lP4, a1, a2, b1, b2, ← hh5, LP5, lP5]
  refine (deleteFS_x oa5 (by omega) (by omega) Q5 (by omega) fun h x hb _ => delete1_x x hb).mono ?_
  rintro w h6 ⟨E6, ow, K6⟩
  have P6 := (E6.2 _ (by omega)).trans P5
  have S6 := (E6.2 _ (by omega)).trans S5
  have lP6 := at_lt P6
  have lS6 := at_lt S6
  have w1 := ow.one
  have w2 := ow.isSl
  have ob6 : OwnX txC 1 hA.n h6 b 9 r.ops := ob5.keep fun c off n cap hv => K6 c (ob5.blk hv).1 (ob5.sep oa5 (by decide) hv)
  obtain ⟨h7, hh7⟩ : ∃ h7, h7 = h6.put H.n (.cells [w, b] 27) := ⟨_, rfl⟩
  have E06 := E05.trans (E6.mono (by omega))
  have E07 : Ext H.n H h7 := hh7 ▸ E06.put _ (Nat.le_refl _)
  have P7 : h7.at H.n = some (.cells [w, b] 27) := hh7 ▸ at_put_same _ lP6
  have S7 : h7.at hq.n = _ := (hh7 ▸ at_put_ne _ (by omega) : h7.at hq.n = h6.at hq.n).trans S6
  have LP7 := ld_at (T := tabOf Tryz.prog NT0) P7
  have lP7 := at_lt P7
  have lS7 := at_lt S7
  obtain ⟨h8, hh8⟩ : ∃ h8, h8 = h7.put hq.n (.cells [w, b] 27) := ⟨_, rfl⟩
  have E08 : Ext H.n H h8 := hh8 ▸ E07.put _ (by omega)
  have S8 : h8.at hq.n = some (.cells [w, b] 27) := hh8 ▸ at_put_same _ lS7
  have LS8 := ld_at (T := tabOf Tryz.prog NT0) S8
  have lS8 := at_lt S8
  simp only [core, zrA, zrS, zrM, zrL, zrE, reduceCtorEq, zrD, ziE, ziL, ziN, P6, lP6, b1, b2, w1, w2, ← hh7, LP7, lP7, S7, lS7, ← hh8, LS8, lS8]
  rw [hkn]
  exact ⟨E08, _, rfl, w, b, rfl, (hh8 ▸ (hh7 ▸ ow.putLt (by omega) : OwnX setC 35 hA.n h7 w 39 _).putLt (by omega) : OwnX setC 35 hA.n h8 w 39 _).mono (by omega),
    (hh8 ▸ (hh7 ▸ ob6.putLt (by omega) : OwnX txC 1 hA.n h7 b 9 r.ops).putLt (by omega) : OwnX txC 1 hA.n h8 b 9 r.ops).mono (by omega)⟩
end Go.Proofs.YtjicijhakcmifaaGreatDoor.Ex
end

section

set_option linter.unusedSimpArgs false
set_option linter.unusedVariables false
set_option maxRecDepth 10000
namespace Go.Proofs.YtjicijhakcmifaaGreatDoor.Ex
open Go
/-- A text laid into its place. -/
def insT (id : List UInt8) : List (List UInt8) → List (List UInt8)
  | [] => [id]
  | x :: r => bif ltS id x then id :: x :: r else x :: insT id r
theorem insT_perm (id : List UInt8) : ∀ l, (insT id l).Perm (l ++ [id])
  | [] => .refl _
  | x :: r => by
    unfold insT
    cases ltS id x with
    | true => exact (List.perm_append_comm (l₁ := [id]) (l₂ := x :: r))
    | false => exact (insT_perm id r).cons x
theorem insT_mem {id y : List UInt8} {l} : y ∈ insT id l ↔ y ∈ l ∨ y = id := by
  rw [(insT_perm id l).mem_iff]; simp
theorem insT_pw {id : List UInt8} : ∀ {l}, l.Pairwise (fun a b => ltS a b = true) → id ∉ l → (insT id l).Pairwise (fun a b => ltS a b = true)
  | [], _, _ => by unfold insT; simp
  | x :: r, h, hn => by
    unfold insT
    obtain ⟨h1, h2⟩ := List.pairwise_cons.1 h
    cases hx : ltS id x with
    | true => exact List.pairwise_cons.2 ⟨fun y hy => by rcases List.mem_cons.1 hy with rfl | hy; exact hx; exact lt_tr hx (h1 y hy), h⟩
    | false =>
      have hxi : ltS x id = true := by
        cases hh : ltS x id with
        | true => rfl
        | false => exact absurd (lt_eq hx hh) fun e => hn (by simp [e])
      exact List.pairwise_cons.2 ⟨fun y hy => by rcases insT_mem.1 hy with hy | rfl; exact h1 y hy; exact hxi, insT_pw h2 fun hm => hn (by simp [hm])⟩
/-- The library's sort of a row in order and one text more lays it into its place. -/
theorem sortT_eq {id : List UInt8} {l : List (List UInt8)} (h : l.Pairwise (fun a b => ltS a b = true)) (hn : id ∉ l) : (l ++ [id]).mergeSort (fun x y => decide (x ≤ y)) = insT id l := by
  refine List.Perm.eq_of_pairwise (le := leS) (fun a b _ _ => le_anti) ?_ ((insT_pw h hn).imp fun h => lt_asym h) ((List.mergeSort_perm _ _).trans (insT_perm id l).symm)
  have := List.pairwise_mergeSort (le := fun x y : List UInt8 => decide (x ≤ y)) (fun a b c h h' => by
    rw [le_dec, Bool.not_eq_true'] at *; exact le_tr h h') (fun a b => by
    rw [le_dec, le_dec]; rcases le_tot a b with h | h <;> unfold leS at h <;> simp [h]) (l ++ [id])
  refine this.imp fun {a b} h => ?_
  rw [le_dec, Bool.not_eq_true'] at h
  exact h
/-- A set laid into its place, the one of its name taken away. -/
def insS (s : SetD) : List SetD → List SetD
  | [] => [s]
  | x :: r => bif ltS x.name s.name then x :: insS s r else s :: (x :: r).filter fun y => !(y.name == s.name)
theorem insS_perm (s : SetD) : ∀ {l : List SetD}, l.Pairwise (fun a b => ltS a.name b.name = true) → (insS s l).Perm ((l.filter fun y => !(y.name == s.name)) ++ [s])
  | [], _ => .refl _
  | x :: r, h => by
    obtain ⟨h1, h2⟩ := List.pairwise_cons.1 h
    unfold insS
    cases hl : ltS x.name s.name with
    | true =>
      have hx : (x.name == s.name) = false := beq_eq_false_iff_ne.2 (lt_ne hl)
      rw [List.filter_cons, hx]
      exact (insS_perm s h2).cons x
    | false => exact (List.perm_append_comm (l₁ := [s]))
theorem insS_pw {s : SetD} : ∀ {l : List SetD}, l.Pairwise (fun a b => ltS a.name b.name = true) → (insS s l).Pairwise (fun a b => ltS a.name b.name = true)
  | [], _ => by unfold insS; simp
  | x :: r, h => by
    obtain ⟨h1, h2⟩ := List.pairwise_cons.1 h
    have hp := insS_perm s h2
    unfold insS
    cases hl : ltS x.name s.name with
    | true =>
      refine List.pairwise_cons.2 ⟨fun y hy => ?_, insS_pw h2⟩
      rcases List.mem_append.1 (hp.mem_iff.1 hy) with hy | hy
      · exact h1 y (List.mem_filter.1 hy).1
      · rw [List.mem_singleton.1 hy]; exact hl
    | false =>
      refine List.pairwise_cons.2 ⟨fun y hy => ?_, h.filter _⟩
      obtain ⟨m1, m2⟩ := List.mem_filter.1 hy
      have hne : y.name ≠ s.name := by simpa using m2
      cases hh : ltS s.name y.name with
      | true => rfl
      | false =>
        cases h3 : ltS y.name s.name with
        | false => exact absurd (lt_eq h3 hh) hne
        | true =>
          rcases List.mem_cons.1 m1 with rfl | m1
          · rw [hl] at h3; cases h3
          · have := lt_tr (h1 y m1) h3
            rw [hl] at this; cases this
/-- The library's sort of a row in order, without the set of that name, and the set. -/
theorem sortS_eq {s : SetD} {l d : List SetD} (h : l.Pairwise (fun a b => ltS a.name b.name = true)) (hp : d.Perm ((l.filter fun y => !(y.name == s.name)) ++ [s])) (hd : d.Pairwise (fun a b => leS a.name b.name)) : d = insS s l := by
  have hi := insS_pw (s := s) h
  have hp2 := hp.trans (insS_perm s h).symm
  refine List.Perm.eq_of_pairwise (le := fun a b => leS a.name b.name) (fun a b ha hb h1 h2 => ?_) hd (hi.imp (S := fun a b : SetD => leS a.name b.name) fun h => lt_asym h) hp2
  have hab := le_anti h1 h2
  have ha' := hp2.mem_iff.1 ha
  obtain ⟨i, hi1, rfl⟩ := List.mem_iff_getElem.1 ha'
  obtain ⟨j, hj1, rfl⟩ := List.mem_iff_getElem.1 hb
  rcases Nat.lt_trichotomy i j with hij | rfl | hij
  · exact absurd hab (lt_ne (List.pairwise_iff_getElem.1 hi i j hi1 hj1 hij))
  · rfl
  · exact absurd hab.symm (lt_ne (List.pairwise_iff_getElem.1 hi j i hj1 hi1 hij))
/-- What a right root is. -/
structure Right (r : RootD) : Prop where
  nO : r.ops.length ≤ 16
  nL : r.live.length ≤ 16
  gO : ∀ x ∈ r.ops, goodIdF x = true
  pO : r.ops.Pairwise (fun a b => ltS a b = true)
  gL : ∀ s ∈ r.live, goodIdF s.id = true ∧ 0 ≤ s.size ∧ s.size ≤ 2147483647 ∧ mGood s.name = true
  pL : r.live.Pairwise (fun a b => ltS a.name b.name = true)
  iL : r.live.Pairwise (fun a b => a.id ≠ b.id)
  iO : ∀ s ∈ r.live, s.id ∉ r.ops
theorem chain_pw {α : Type} {R : α → α → Prop} (ht : ∀ {a b c}, R a b → R b c → R a c) {l : List α} (h : ∀ i (hi : i + 1 < l.length), R l[i] l[i + 1]) : l.Pairwise R := by
  rw [List.pairwise_iff_getElem]
  intro i j hi hj hij
  obtain ⟨k, rfl⟩ : ∃ k, j = i + 1 + k := ⟨j - i - 1, by omega⟩
  induction k with
  | zero => exact h i hj
  | succ k ih => exact ht (ih (by omega) (by omega)) (h (i + 1 + k) hj)
theorem getD_get {α : Type} {l : List α} {i : Nat} {d : α} (hi : i < l.length) : l.getD i d = l[i] := by rw [List.getD_eq_getElem?_getD, List.getElem?_eq_getElem hi]; rfl
theorem okO_iff {l : List (List UInt8)} : (List.range l.length).all (okO l) = true ↔ (∀ x ∈ l, goodIdF x = true) ∧ l.Pairwise (fun a b => ltS a b = true) := by
  simp only [List.all_eq_true, List.mem_range]
  unfold okO
  constructor
  · intro h
    refine ⟨fun x hx => ?_, chain_pw (R := fun a b : List UInt8 => ltS a b = true) (fun h1 h2 => lt_tr h1 h2) fun i hi => ?_⟩
    · obtain ⟨i, hi, rfl⟩ := List.mem_iff_getElem.1 hx
      have := h i hi
      rw [getD_get hi, Bool.and_eq_true] at this
      exact this.1
    · have := h (i + 1) hi
      rw [getD_get hi, Nat.add_sub_cancel, getD_get (by omega), Bool.and_eq_true, Bool.or_eq_true] at this
      rcases this.2 with h | h
      · simp at h
      · exact h
  · rintro ⟨h1, h2⟩ i hi
    rw [getD_get hi, h1 _ (List.getElem_mem hi), Bool.true_and]
    cases i with
    | zero => rfl
    | succ i =>
      rw [Nat.add_sub_cancel, getD_get (by omega), List.pairwise_iff_getElem.1 h2 i (i + 1) (by omega) hi (by omega), Bool.or_true]
theorem okS_iff {o : List (List UInt8)} {l : List SetD} : (List.range l.length).all (okS o l) = true ↔ (∀ s ∈ l, goodIdF s.id = true ∧ 0 ≤ s.size ∧ s.size ≤ 2147483647) ∧ l.Pairwise (fun a b => ltS a.name b.name = true) ∧ l.Pairwise (fun a b => a.id ≠ b.id) ∧ ∀ s ∈ l, s.id ∉ o := by
  simp only [List.all_eq_true, List.mem_range]
  have key : ∀ i (hi : i < l.length), okS o l i = true ↔ (goodIdF l[i].id = true ∧ 0 ≤ l[i].size ∧ l[i].size ≤ 2147483647) ∧ (∀ j (hj : j + 1 = i), ltS l[j].name l[i].name = true) ∧ l[i].id ∉ o ∧ ∀ j (hj : j < i), l[j].id ≠ l[i].id := by
    intro i hi
    unfold okS
    rw [getD_get hi]
    simp only [Bool.and_eq_true, decide_eq_true_eq, Bool.not_eq_true', Bool.or_eq_false_iff, Bool.or_eq_true]
    constructor
    · rintro ⟨⟨⟨⟨h1, h2⟩, h3⟩, h4⟩, h5, h6⟩
      refine ⟨⟨h1, h2, h3⟩, fun j hj => ?_, fun hm => ?_, fun j hj e => ?_⟩
      · subst hj
        rw [Nat.add_sub_cancel, getD_get (by omega)] at h4
        rcases h4 with h4 | h4
        · simp at h4
        · exact h4
      · rw [List.contains_iff_mem.2 hm] at h5; cases h5
      · rw [List.any_eq_false] at h6
        exact h6 l[j] (List.mem_take_iff_getElem.2 ⟨j, by omega, rfl⟩) (by rw [e]; simp)
    · rintro ⟨⟨h1, h2, h3⟩, h4, h5, h6⟩
      refine ⟨⟨⟨⟨h1, h2⟩, h3⟩, ?_⟩, ?_, ?_⟩
      · cases i with
        | zero => exact .inl rfl
        | succ i => rw [Nat.add_sub_cancel, getD_get (by omega)]; exact .inr (h4 i rfl)
      · exact Bool.eq_false_iff.2 fun hh => h5 (List.contains_iff_mem.1 hh)
      · rw [List.any_eq_false]
        intro x hx
        obtain ⟨j, hj, rfl⟩ := List.mem_take_iff_getElem.1 hx
        simpa using h6 j (by omega)
  constructor
  · intro h
    have hk := fun i hi => (key i hi).1 (h i hi)
    refine ⟨fun s hs => ?_, chain_pw (R := fun a b : SetD => ltS a.name b.name = true) (fun h1 h2 => lt_tr h1 h2) fun i hi => (hk (i + 1) hi).2.1 i rfl, List.pairwise_iff_getElem.2 fun i j hi hj hij => (hk j hj).2.2.2 i hij, fun s hs => ?_⟩
    · obtain ⟨i, hi, rfl⟩ := List.mem_iff_getElem.1 hs
      exact (hk i hi).1
    · obtain ⟨i, hi, rfl⟩ := List.mem_iff_getElem.1 hs
      exact (hk i hi).2.2.1
  · rintro ⟨h1, h2, h3, h4⟩ i hi
    exact (key i hi).2 ⟨h1 _ (List.getElem_mem hi), fun j hj => by subst hj; exact List.pairwise_iff_getElem.1 h2 j (j + 1) (by omega) hi (by omega), h4 _ (List.getElem_mem hi), fun j hj => List.pairwise_iff_getElem.1 h3 j i (by omega) hi hj⟩
theorem chk_iff {r : RootD} : chkF r = 0 ↔ Right r := by
  unfold chkF
  constructor
  · intro h
    split at h
    case isFalse => cases h
    rename_i hh
    obtain ⟨h1, h2, h3, h4⟩ := hh
    split at h
    case isFalse => cases h
    rename_i h5
    obtain ⟨o1, o2⟩ := okO_iff.1 h3
    obtain ⟨s1, s2, s3, s4⟩ := okS_iff.1 h4
    rw [List.all_eq_true] at h5
    exact ⟨h1, h2, o1, o2, fun s hs => ⟨(s1 s hs).1, (s1 s hs).2.1, (s1 s hs).2.2, by simpa using h5 s hs⟩, s2, s3, s4⟩
  · intro h
    rw [if_pos ⟨h.nO, h.nL, okO_iff.2 ⟨h.gO, h.pO⟩, okS_iff.2 ⟨fun s hs => ⟨(h.gL s hs).1, (h.gL s hs).2.1, (h.gL s hs).2.2.1⟩, h.pL, h.iL, h.iO⟩⟩, if_pos (List.all_eq_true.2 fun s hs => by simpa using (h.gL s hs).2.2.2)]
theorem Right.close {r : RootD} {p : List UInt8 → Bool} (h : Right r) : Right ⟨r.live, r.ops.filter p⟩ :=
  ⟨Nat.le_trans (List.length_filter_le _ _) h.nO, h.nL, fun x hx => h.gO x (List.mem_filter.1 hx).1, h.pO.filter _, h.gL, h.pL, h.iL, fun s hs hm => h.iO s hs (List.mem_filter.1 hm).1⟩
theorem Right.delete {r : RootD} {p : SetD → Bool} (h : Right r) : Right ⟨r.live.filter p, r.ops⟩ :=
  ⟨h.nO, Nat.le_trans (List.length_filter_le _ _) h.nL, h.gO, h.pO, fun s hs => h.gL s (List.mem_filter.1 hs).1, h.pL.filter _, h.iL.filter _, fun s hs => h.iO s (List.mem_filter.1 hs).1⟩
theorem knows_iff {r : RootD} {id : List UInt8} (h : Right r) : knowsF r id = true ↔ id ∈ r.ops ∨ ∃ s ∈ r.live, s.id = id := by
  unfold knowsF
  rw [decide_eq_true (chk_iff.2 h)]
  simp
theorem Right.open {r : RootD} {id : List UInt8} (h : Right r) (hk : knowsF r id = false) (hg : goodIdF id = true) (hn : r.ops.length < 16) : Right ⟨r.live, insT id r.ops⟩ := by
  have hno : ¬ (id ∈ r.ops ∨ ∃ s ∈ r.live, s.id = id) := fun hh => by rw [(knows_iff h).2 hh] at hk; cases hk
  exact ⟨by have := (insT_perm id r.ops).length_eq; rw [List.length_append] at this; simp at this ⊢; omega, h.nL, fun x hx => by rcases insT_mem.1 hx with hx | rfl; exact h.gO x hx; exact hg, insT_pw h.pO fun hm => hno (.inl hm), h.gL, h.pL, h.iL, fun s hs hm => by
    rcases insT_mem.1 hm with hm | hm
    · exact h.iO s hs hm
    · exact hno (.inr ⟨s, hs, hm⟩)⟩
/-- An opening. -/
def openF (r : RootD) (id : List UInt8) : RootD × Int :=
  if chkF r = 0 then (if goodIdF id = true then (if knowsF r id = true then (root0, 17) else if 16 ≤ r.ops.length then (root0, 28) else (⟨r.live, insT id r.ops⟩, 0)) else (root0, 22)) else (root0, chkF r)
/-- A commit. -/
def commitF (r : RootD) (s : SetD) : RootD × Int :=
  if chkF r = 0 then (if goodIdF s.id = true ∧ 0 ≤ s.size ∧ s.size ≤ 2147483647 then (if mGood s.name = true then (if (r.ops.any fun x => s.id == x) = true then (if (findF r s.name).isSome = false ∧ 16 ≤ r.live.length then (root0, 28) else (⟨insS s r.live, r.ops.filter fun x => !(x == s.id)⟩, 0)) else (root0, 125)) else (root0, 36)) else (root0, 22)) else (root0, chkF r)
end Go.Proofs.YtjicijhakcmifaaGreatDoor.Ex
end

section

set_option linter.unusedSimpArgs false
set_option linter.unusedVariables false
set_option maxRecDepth 10000
set_option maxHeartbeats 4000000
namespace Go.Proofs.YtjicijhakcmifaaGreatDoor.Ex
open Go
end Go.Proofs.YtjicijhakcmifaaGreatDoor.Ex
end

section

set_option linter.unusedSimpArgs false
set_option linter.unusedVariables false
set_option maxRecDepth 10000
set_option maxHeartbeats 4000000
namespace Go.Proofs.YtjicijhakcmifaaGreatDoor.Ex
open Go
theorem texts_x {F G : Nat → Prop} {H : AH} {v w : AV} {xs : List (List UInt8)} (hv : IsSl RTx F H v xs) (hw : IsSl RTx G H w xs) (hl : xs.length ≤ 4611686018427387000) :
    WC Tryz.prog (tabOf Tryz.prog NT0) S0 60 [v, w] H fun r h' => r = .lit (.bool true) ∧ h' = H := by
  refine WC_fn Tryz.func60 rfl rfl ?_
  have v1 := hv.one
  have v2 := hv.isSl
  have v3 := hv.lenD
  have w1 := hw.one
  have w2 := hw.isSl
  have w3 := hw.lenD
  obtain ⟨n, hN⟩ : ∃ n, n = xs.length := ⟨_, rfl⟩
  rw [← hN] at v3 w3
  have hnn : ((n : Int) != (n : Int)) = false := by simp
  simp only [core, zrA, zrS, zrM, zrL, zrE, reduceCtorEq, zrD, ziE, ziL, ziN, Tryz.ntmps60, v1, v2, v3, w1, w2, w3, hnn]
  refine WB_for n (fun i t h => h = H ∧ t.n = 26 ∧ t.get 0 = v ∧ t.get 1 = w ∧ t.get 12 = .lit (.int .i64 n) ∧ t.get 13 = .lit (.int .i64 i)) ?_ ?_ _ _ ?_
  · rintro i t h hlt hc2 ⟨rfl, hn, g0, g1, g12, g13⟩ ih
    have hwi := wrap_succ (n := n) hlt (by omega)
    obtain ⟨x, hx⟩ : ∃ x, xs[i]? = some x := ⟨_, List.getElem?_eq_getElem (by omega)⟩
    have ld : ∀ {F : Nat → Prop} {v : AV}, IsSl RTx F h v xs → loadA (tabOf Tryz.prog NT0) h 9 (slB v) (slO v + i) = some (.lit (.string ⟨x.toArray⟩)) := fun {F v} hv => by
      obtain ⟨cc, hc1, hld, hld0⟩ := hv.at (T := tabOf Tryz.prog NT0) RTx_z hx
      obtain rfl := RTx_is.1 hc1
      have ld := hld0 9 1 (by kernel_rfl) (by decide) (by decide)
      rw [Nat.mul_one] at ld
      rw [ld]
      rfl
    have la := ld hv
    have lb := ld hw
    have hxx : (x == x) = true := by simp
    simp only [core, zrA, zrS, zrM, zrL, zrE, reduceCtorEq, zrD, ziE, ziL, ziN, hn, g0, g1, g12, g13, hlt, hc2]
    rw [WB_regionD [0, 1, 2, 3, 4, 5, 6, 7, 8] 1205237335491016659828736 (by kernel_rfl)]
    repeat (first | ((with_reducible refine WDM_cons ?_; simp only [dw1]; try simp only [dw2, zrA, zrM, zrR, zrO, zrE]); simp only [core, zrA, zrS, zrM, zrL, zrE, reduceCtorEq, zrD, ziE, ziL, ziN, cored, hn, g0, g1, g12, g13, hlt, v1, v2, v3, w1, w2, w3, la, lb, pur_sne, hxx, hwi]) | simp only [core, zrA, zrS, zrM, zrL, zrE, reduceCtorEq, zrD, ziE, ziL, ziN, cored, hn, g0, g1, g12, g13, hlt, v1, v2, v3, w1, w2, w3, la, lb, pur_sne, hxx, hwi])
    refine ih _ _ ⟨rfl, ?_⟩
    simp only [core, zrA, zrS, zrM, zrL, zrE, reduceCtorEq, zrD, ziE, ziL, ziN, hn, g0, g1, g12, g13]
  · rintro t h hc2 ⟨rfl, hn, g0, g1, g12, g13⟩
    simp only [core, zrA, zrS, zrM, zrL, zrE, reduceCtorEq, zrD, ziE, ziL, ziN, hn, g0, g1, g12, g13, hc2]
    try exact ⟨rfl, rfl⟩
  · refine ⟨rfl, ?_⟩
    simp only [core, zrA, zrS, zrM, zrL, zrE, reduceCtorEq, zrD, ziE, ziL, ziN]
    try ((repeat' apply And.intro) <;> first | rfl | trivial)
end Go.Proofs.YtjicijhakcmifaaGreatDoor.Ex
end

section

set_option linter.unusedSimpArgs false
set_option linter.unusedVariables false
set_option maxRecDepth 10000
set_option maxHeartbeats 4000000
namespace Go.Proofs.YtjicijhakcmifaaGreatDoor.Ex
open Go
/-- A root in the heap, its rows the run's own, its sets of this type. -/
def OwnQ (e : TypeId) (n0 : Nat) (h : AH) (v : AV) (r : RootD) : Prop := ∃ a b, v = .agg [a, b] ∧ OwnX setC 35 n0 h a e r.live ∧ OwnX txC 1 n0 h b 9 r.ops
theorem OwnQ.zero {e : TypeId} {n0 : Nat} {h : AH} : OwnQ e n0 h (.agg [.lit (.slice none 0 0), .lit (.slice none 0 0)]) root0 := ⟨_, _, rfl, .inl ⟨rfl, rfl⟩, .inl ⟨rfl, rfl⟩⟩
theorem snocT {n0 q : Nat} {h : AH} {v : AV} {xs : List (List UInt8)} {x : List UInt8} {cap : Cap} {e' : TypeId} (ho : OwnX txC 1 n0 h v 9 xs) (hn0 : n0 ≤ h.n) (A : h.at q = some (.cells [.lit (.string ⟨x.toArray⟩)] e')) (hl : xs.length ≤ 1000000000000) :
    ∃ s' h', appendA (tabOf Tryz.prog NT0) h 25 25 v (.sl q 0 1 cap) = some (s', h') ∧ OwnX txC 1 n0 h' s' 9 (xs ++ [x]) ∧ Ext n0 h h' := by
  obtain ⟨s', h', a, b, c⟩ := ho.snoc (T := tabOf Tryz.prog NT0) (t := 25) (y := x) (cap := cap) flatTx (by kernel_rfl) (by kernel_rfl) (zv := .lit (.string ⟨#[]⟩)) (by kernel_rfl) (by' := 16) (by kernel_rfl) rfl (by decide) A (by omega) (by omega) hn0
  exact ⟨s', h', a, b.toX, c⟩
theorem snocS {n0 q : Nat} {h : AH} {v : AV} {xs : List SetD} {x : SetD} {cap : Cap} {e' : TypeId} (ho : OwnX setC 35 n0 h v 87 xs) (hn0 : n0 ≤ h.n) (A : h.at q = some (.cells (setC x) e')) (hl : xs.length ≤ 1000000000000) :
    ∃ s' h', appendA (tabOf Tryz.prog NT0) h 47 47 v (.sl q 0 1 cap) = some (s', h') ∧ OwnX setC 35 n0 h' s' 87 (xs ++ [x]) ∧ Ext n0 h h' := by
  obtain ⟨s', h', a, b, c⟩ := ho.snoc (T := tabOf Tryz.prog NT0) (t := 47) (y := x) (cap := cap) flatSet (by kernel_rfl) (by kernel_rfl) (zv := .agg (setC set0)) (by kernel_rfl) (by' := 72) (by kernel_rfl) rfl (by decide) A (by omega) (by omega) hn0
  exact ⟨s', h', a, b.toX, c⟩
end Go.Proofs.YtjicijhakcmifaaGreatDoor.Ex
end

section

set_option linter.unusedSimpArgs false
set_option linter.unusedVariables false
set_option maxRecDepth 10000
set_option maxHeartbeats 4000000
namespace Go.Proofs.YtjicijhakcmifaaGreatDoor.Ex
open Go
end Go.Proofs.YtjicijhakcmifaaGreatDoor.Ex
end

section

set_option linter.unusedSimpArgs false
set_option linter.unusedVariables false
set_option maxRecDepth 10000
set_option maxHeartbeats 4000000
namespace Go.Proofs.YtjicijhakcmifaaGreatDoor.Ex
open Go
theorem snocK {α : Type} {R : Rep α} {cf : α → List AV} {z n0 : Nat} {h : AH} {v : AV} {e : TypeId} {xs : List α} {T : TT} {t : TypeId} {by' q : Nat} {zv : AV} {y : α} {cap : Cap} {e' : TypeId} (hR : FlatK R cf z) (ho : OwnX cf z n0 h v e xs) (hu : und T t = some (.slice e)) (hz : sizeT T e = some z) (hzv : zeroT T e = some zv) (hb : bytesT T e = some by')
    (hzl : zv.cells.length = z) (h200 : z ≤ 200) (hq : h.at q = some (.cells (cf y) e')) (hn : xs.length + 1 ≤ 4611686018427387904) (hby : (xs.length + 1) * by' ≤ 140737488355328) (hn0 : n0 ≤ h.n) :
    ∃ s' h', appendA T h t t v (.sl q 0 1 cap) = some (s', h') ∧ OwnW cf z n0 h' s' e (xs ++ [y]) ∧ Ext n0 h h' ∧ ∀ c, c < h.n → Apart v c → h'.at c = h.at c := by
  have h1 : (cf y).all AV.one = true := by
    rw [List.all_eq_true]
    exact fun w hw => R.one ((hR.is (fun _ => True) h _ _).2 rfl) w hw
  have hs : lenA v = some xs.length := by
    rcases ho with ⟨rfl, rfl⟩ | ⟨rfl, p, hp, rfl, hat⟩ | ⟨p, l, hp, rfl, hat⟩ <;> rfl
  rw [appendA_one hu hz hzv hb hzl hR.z0 h200 hq (hR.len y) h1 hs hn hby]
  have hpl : ∀ x c, c < h.n → (h.push x).at c = h.at c := fun x c hc => at_push_lt _ hc
  rcases ho with ⟨rfl, rfl⟩ | ⟨rfl, p, hp, rfl, hat⟩ | ⟨p, l, hp, rfl, hat⟩
  · exact ⟨_, _, rfl, ⟨h.n, hn0, rfl, by rw [at_push_n]; simp⟩, (Ext.refl _ _).push _ hn0, fun c hc _ => hpl _ c hc⟩
  · have hg : getR h p = some [] := by unfold getR; rw [hat]
    have hc : cut ([] : List AV) 0 (0 * z) = some [] := by simp [cut]
    refine ⟨.sl h.n 0 1 (.un z), h.push (.cells ([] ++ cf y) e), ?_, ⟨h.n, hn0, rfl, by rw [at_push_n]; simp⟩, (Ext.refl _ _).push _ hn0, fun c hc _ => hpl _ c hc⟩
    unfold appendB
    simp only [show Nat.beq 1 0 = false from rfl, show Nat.ble (0 + 1) 0 = false from rfl, hg, hc, cond_false]
  · have hg : getB h p = some (xs.flatMap cf ++ l, e) := by unfold getB; rw [hat]
    have hl := flatMap_len hR.len xs
    have hc : cut (xs.flatMap cf ++ l) 0 (xs.length * z) = some (xs.flatMap cf) := by
      unfold cut
      rw [if_pos (by rw [List.length_append, hl]; omega), List.drop_zero, ← hl, List.take_left']
      rfl
    refine ⟨.sl h.n 0 (xs.length + 1) (.un z), (h.put p .gone).push (.cells (xs.flatMap cf ++ cf y) e), ?_, ⟨h.n, hn0, by simp, ?_⟩, ((Ext.refl n0 h).put .gone hp).push _ (by rw [n_put]; exact hn0), fun c hc hap => ?_⟩
    · unfold appendB
      simp only [show Nat.beq 1 0 = false from rfl, hg, hc, cond_false, Nat.beq_refl, Bool.and_self, cond_true]
    · have := at_push_n (h.put p .gone) (.cells (xs.flatMap cf ++ cf y) e)
      rw [n_put] at this
      rw [this]
      simp
    · rw [at_push_lt _ (by rw [n_put]; exact hc)]
      exact at_put_ne _ fun hh => hap 0 xs.length (.un z) (by rw [hh])
end Go.Proofs.YtjicijhakcmifaaGreatDoor.Ex
end

section

set_option linter.unusedSimpArgs false
set_option linter.unusedVariables false
set_option maxRecDepth 10000
set_option maxHeartbeats 4000000
namespace Go.Proofs.YtjicijhakcmifaaGreatDoor.Ex
open Go
theorem strsL_map : ∀ xs : List ByteArray, strsL (xs.map fun z => AV.lit (.string z)) = some xs
  | [] => rfl
  | x :: xs => by
    show (strsL (xs.map fun z => AV.lit (.string z))).map (x :: ·) = _
    rw [strsL_map xs]
    rfl
theorem flat_tx (xs : List (List UInt8)) : xs.flatMap txC = (xs.map fun x => (⟨x.toArray⟩ : ByteArray)).map fun z => AV.lit (.string z) := by
  induction xs with
  | nil => rfl
  | cons x xs ih => rw [List.flatMap_cons, ih]; rfl
theorem sortT_c {H : AH} {p : Nat} {xs : List (List UInt8)} {c : Cap} {Q : AV → AH → Prop} (hat : H.at p = some (.cells (xs.flatMap txC) 9)) (h0 : 0 < xs.length) (hl : xs.length ≤ 1000000) (hq : Q (.tup []) (H.put p (.cells ((srtT xs).flatMap txC) 9))) :
    WC Tryz.prog (tabOf Tryz.prog NT0) S0 21 [.sl p 0 xs.length c] H Q := by
  refine WC_sum Tryz.func21 rfl (g := sSortT) rfl ?_ hq
  have hi := strsL_map (xs.map fun x => (⟨x.toArray⟩ : ByteArray))
  rw [← flat_tx] at hi
  have h1 : (Nat.blt 0 xs.length && (Nat.beq xs.length (xs.map fun x => (⟨x.toArray⟩ : ByteArray)).length && Nat.ble (xs.map fun x => (⟨x.toArray⟩ : ByteArray)).length 1000000)) = true := by
    rw [List.length_map, Nat.beq_refl, Nat.ble_eq_true_of_le hl]
    simpa using h0
  have h2 : (xs.map fun x => (⟨x.toArray⟩ : ByteArray)).map (·.data.toList) = xs := by
    rw [List.map_map]
    exact List.map_id'' (fun _ => rfl) xs
  have h3 : (srtT xs).flatMap txC = (srtT xs).map fun x => AV.lit (.string ⟨x.toArray⟩) := by rw [flat_tx, List.map_map]; rfl
  unfold sSortT
  simp only [hat, hi, h1, h2, cond_true, h3]
theorem sortF_c {H : AH} {p : Nat} {xs : List SetD} {c : Cap} {Q : AV → AH → Prop} (hat : H.at p = some (.cells (xs.flatMap setC) 39)) (h0 : 0 < xs.length) (hl : xs.length ≤ 1000000) (hn : (xs.map (·.name)).Nodup) (hq : Q (.tup []) (H.put p (.cells ((srtS xs).flatMap setC) 39))) :
    WC Tryz.prog (tabOf Tryz.prog NT0) S0 24 [.sl p 0 xs.length c, .fn (.func 25) [] []] H Q := by
  refine WC_sum Tryz.func24 rfl (g := sSortF) rfl ?_ hq
  have h1 : (Nat.beq 25 25 && (Nat.blt 0 xs.length && (Nat.ble xs.length 1000000 && decide ((xs.map (·.name)).Nodup)))) = true := by
    rw [Nat.beq_refl, Nat.ble_eq_true_of_le hl, decide_eq_true hn]
    simpa using h0
  unfold sSortF
  simp only [hat, setsL_flat, h1, cond_true]
theorem Open_x {F : Nat → Prop} {H : AH} {vl vo : AV} {r : RootD} {id : List UInt8} (hl : IsSl RSet F H vl r.live) (ho : IsSl RTx F H vo r.ops) (hr : RLen r) (hid : id.length ≤ 1100000) :
    WC Tryz.prog (tabOf Tryz.prog NT0) S0 5 [.agg [vl, vo], .lit (.string ⟨id.toArray⟩)] H fun v h' => Ext H.n H h' ∧ ∃ u, v = .tup [u, .lit (.int .i64 (openF r id).2)] ∧ OwnQ 39 H.n h' u (openF r id).1 := by
  refine WC_fn Tryz.func5 rfl rfl ?_
  have l1 := hl.one
  have l2 := hl.isSl
  have l3 := hl.lenD
  have o1 := ho.one
  have o2 := ho.isSl
  have o3 := ho.lenD
  obtain ⟨n, hN⟩ : ∃ n, n = r.ops.length := ⟨_, rfl⟩
  rw [← hN] at o3
  obtain ⟨hp, hhp⟩ : ∃ hp, hp = H.push (.cells [vl, vo] 27) := ⟨_, rfl⟩
  have EP : Ext H.n H hp := hhp ▸ (Ext.refl _ _).push _ (Nat.le_refl _)
  have nP : hp.n = H.n + 1 := by rw [hhp, n_push]
  have P0 : hp.at H.n = some (.cells [vl, vo] 27) := hhp ▸ at_push_n _ _
  obtain ⟨hs, hhs⟩ : ∃ hs, hs = hp.push (.cells [.lit (.slice none 0 0), .lit (.slice none 0 0)] 27) := ⟨_, rfl⟩
  have ES : Ext hp.n hp hs := hhs ▸ (Ext.refl _ _).push _ (Nat.le_refl _)
  have nS : hs.n = H.n + 2 := by rw [hhs, n_push, nP]
  have S0 : hs.at hp.n = some (.cells [.lit (.slice none 0 0), .lit (.slice none 0 0)] 27) := hhs ▸ at_push_n _ _
  have P1 := (ES.2 _ (at_lt P0)).trans P0
  have E0 := EP.trans (ES.mono EP.1)
  have LP := ld_at (T := tabOf Tryz.prog NT0) P1
  have lP := at_lt P1
  have bad : ∀ h4 : AH, Ext H.n H h4 → h4.at hp.n = some (.cells [.lit (.slice none 0 0), .lit (.slice none 0 0)] 27) →
      ∃ h5, h5 = h4.put hp.n (.cells [.lit (.slice none 0 0), .lit (.slice none 0 0)] 27) ∧ Ext H.n H h5 ∧ (∀ e i, loadA (tabOf Tryz.prog NT0) h5 e hp.n i = ldL (tabOf Tryz.prog NT0) e [.lit (.slice none 0 0), .lit (.slice none 0 0)] i) ∧ hp.n < h5.n := fun h4 e4 a4 =>
    ⟨_, rfl, e4.put _ (by omega), ld_at (at_put_same _ (at_lt a4)), by rw [n_put]; exact at_lt a4⟩
  simp only [core, zrA, zrS, zrM, zrL, zrE, reduceCtorEq, zrD, ziE, ziL, ziN, Tryz.ntmps5, l1, l2, l3, o1, o2, o3, ← hhp, ← hhs, LP, lP]
  refine (CheckRoot_x (hl.ext E0 (Nat.le_refl _)) (ho.ext E0 (Nat.le_refl _)) hr.o hr.s).mono ?_
  rintro _ h2 ⟨E2, rfl⟩
  have m2 := E2.1
  have E02 := E0.trans (E2.mono E0.1)
  have P2 := (E2.2 _ lP).trans P1
  have S2 := (E2.2 _ (at_lt S0)).trans S0
  have lS2 := at_lt S2
  cases hk : decide (chkF r = 0) with
  | false =>
    have hb : (chkF r != 0) = true := by rw [bne, beq_eq_false_iff_ne.2 (of_decide_eq_false hk)]; rfl
    have hkn : openF r id = (root0, chkF r) := by unfold openF; rw [if_neg (of_decide_eq_false hk)]
    obtain ⟨h5, hh5, E5, L5, l5⟩ := bad h2 E02 S2
    simp only [core, zrA, zrS, zrM, zrL, zrE, reduceCtorEq, zrD, ziE, ziL, ziN, aundef, hb, hkn, S2, lS2, ← hh5, L5, l5]
    exact ⟨E5, _, rfl, OwnQ.zero⟩
  | true =>
  have hc := of_decide_eq_true hk
  have hb : (chkF r != 0) = false := by rw [hc]; rfl
  obtain ⟨n1, n2⟩ := chk_len hc
  have hRt := chk_iff.1 hc
  have LP2 := ld_at (T := tabOf Tryz.prog NT0) P2
  have lP2 := at_lt P2
  simp only [core, zrA, zrS, zrM, zrL, zrE, reduceCtorEq, zrD, ziE, ziL, ziN, aundef, hb, LP2, lP2, o1, o2, o3, l1, l2, l3]
  refine (goodId_x hid).mono ?_
  rintro _ h3 ⟨E3, rfl⟩
  have m3 := E3.1
  have E03 := E02.trans (E3.mono E02.1)
  have P3 := (E3.2 _ lP2).trans P2
  have S3 := (E3.2 _ lS2).trans S2
  have lS3 := at_lt S3
  cases hg : goodIdF id with
  | false =>
    have hkn : openF r id = (root0, 22) := by unfold openF; rw [if_pos hc, if_neg (by rw [hg]; decide)]
    obtain ⟨h5, hh5, E5, L5, l5⟩ := bad h3 E03 S3
    simp only [core, zrA, zrS, zrM, zrL, zrE, reduceCtorEq, zrD, ziE, ziL, ziN, aundef, hg, hkn, S3, lS3, ← hh5, L5, l5]
    exact ⟨E5, _, rfl, OwnQ.zero⟩
  | true =>
  have LP3 := ld_at (T := tabOf Tryz.prog NT0) P3
  have lP3 := at_lt P3
  simp only [core, zrA, zrS, zrM, zrL, zrE, reduceCtorEq, zrD, ziE, ziL, ziN, aundef, hg, LP3, lP3, o1, o2, o3, l1, l2, l3]
  refine (Knows_x (hl.ext E03 (Nat.le_refl _)) (ho.ext E03 (Nat.le_refl _)) hr).mono ?_
  rintro _ hA ⟨eA, rfl⟩
  have nA := eA.1
  have EA := E03.trans (eA.mono E03.1)
  have PA := (eA.2 _ lP3).trans P3
  have SA := (eA.2 _ lS3).trans S3
  have LPA := ld_at (T := tabOf Tryz.prog NT0) PA
  have lPA := at_lt PA
  have lSA := at_lt SA
  cases hm : knowsF r id with
  | true =>
    have hkn : openF r id = (root0, 17) := by unfold openF; rw [if_pos hc, if_pos hg, if_pos hm]
    obtain ⟨h5, hh5, E5, L5, l5⟩ := bad hA EA SA
    simp only [core, zrA, zrS, zrM, zrL, zrE, reduceCtorEq, zrD, ziE, ziL, ziN, aundef, hm, hkn, SA, lSA, ← hh5, L5, l5]
    exact ⟨E5, _, rfl, OwnQ.zero⟩
  | false =>
  cases hf : decide ((16 : Int) ≤ (n : Int)) with
  | true =>
    have hkn : openF r id = (root0, 28) := by unfold openF; rw [if_pos hc, if_pos hg, if_neg (by rw [hm]; decide), if_pos (by have := of_decide_eq_true hf; omega)]
    obtain ⟨h5, hh5, E5, L5, l5⟩ := bad hA EA SA
    simp only [core, zrA, zrS, zrM, zrL, zrE, reduceCtorEq, zrD, ziE, ziL, ziN, aundef, hm, hf, hkn, LPA, lPA, o1, o2, o3, SA, lSA, ← hh5, L5, l5]
    exact ⟨E5, _, rfl, OwnQ.zero⟩
  | false =>
  have hn16 : n < 16 := by have := of_decide_eq_false hf; omega
  have hkn : openF r id = (⟨r.live, insT id r.ops⟩, 0) := by unfold openF; rw [if_pos hc, if_pos hg, if_neg (by rw [hm]; decide), if_neg (by omega)]
  have hno : id ∉ r.ops := fun hh => by rw [(knows_iff hRt).2 (.inl hh)] at hm; cases hm
  have hsrt : srtT (r.ops ++ [id]) = insT id r.ops := sortT_eq hRt.pO hno
  simp only [core, zrA, zrS, zrM, zrL, zrE, reduceCtorEq, zrD, ziE, ziL, ziN, aundef, hm, hf, LPA, lPA, o1, o2, o3, l1, l2, l3]
  refine (clone_x (hl.ext EA (Nat.le_refl _)) (ho.ext EA (Nat.le_refl _)) (by omega) (by omega)).mono ?_
  rintro _ h4 ⟨E4, a, b, rfl, oa, ob⟩
  have m4 := E4.1
  have E04 := EA.trans (E4.mono EA.1)
  have P4 := (E4.2 _ lPA).trans PA
  have S4 := (E4.2 _ lSA).trans SA
  have lP4 := at_lt P4
  have a1 := oa.one
  have a2 := oa.isSl
  have b1 := ob.one
  have b2 := ob.isSl
  obtain ⟨h5, hh5⟩ : ∃ h5, h5 = h4.put H.n (.cells [a, b] 27) := ⟨_, rfl⟩
  have E05 : Ext H.n H h5 := hh5 ▸ E04.put _ (Nat.le_refl _)
  have n5 : h5.n = h4.n := by rw [hh5, n_put]
  have P5 : h5.at H.n = some (.cells [a, b] 27) := hh5 ▸ at_put_same _ lP4
  have S5 : h5.at hp.n = _ := (hh5 ▸ at_put_ne _ (by omega) : h5.at hp.n = h4.at hp.n).trans S4
  have oa5 : OwnX setC 35 hA.n h5 a 39 r.live := hh5 ▸ oa.putLt (by omega)
  have ob5 : OwnX txC 1 hA.n h5 b 9 r.ops := hh5 ▸ ob.putLt (by omega)
  have LP5 := ld_at (T := tabOf Tryz.prog NT0) P5
  have lP5 := at_lt P5
  simp only [core, zrA, zrS, zrM, zrL, zrE, reduceCtorEq, zrD, ziE, ziL, ziN, P4, lP4, a1, a2, b1, b2, ← hh5, LP5, lP5]
  have e5 : Ext h5.n h5 (h5.push (.cells [.lit (.string ⟨id.toArray⟩)] 9)) := (Ext.refl _ _).push _ (Nat.le_refl _)
  refine WOp_app (snocK (T := tabOf Tryz.prog NT0) (t := 25) (y := id) flatTx (ob5.ext e5 (Nat.le_refl _)) (by kernel_rfl) (by kernel_rfl) (zv := .lit (.string ⟨#[]⟩)) (by kernel_rfl) (by' := 16) (by kernel_rfl) rfl (by decide) (at_push_n h5 _) (by omega) (by omega) (by rw [n_push]; omega)) ?_
  rintro w h6 ⟨ow, E6, K6⟩
  have E56 := (e5.mono (by omega : hA.n ≤ h5.n)).trans E6
  have P6 := (E56.2 _ (by omega)).trans P5
  have S6 := (E56.2 _ (by omega)).trans S5
  have lP6 := at_lt P6
  have lS6 := at_lt S6
  have w1 := ow.toX.one
  have w2 := ow.toX.isSl
  have oa6 : OwnX setC 35 hA.n h6 a 39 r.live := oa5.keep fun c off n cap hv => (K6 c (by rw [n_push]; have := (oa5.blk hv).1; omega) (oa5.sep ob5 (by decide) hv)).trans (e5.2 _ (oa5.blk hv).1)
  obtain ⟨p, p0, rfl, p2⟩ := ow
  obtain ⟨h7, hh7⟩ : ∃ h7, h7 = h6.put H.n (.cells [a, .sl p 0 (r.ops ++ [id]).length (.un 1)] 27) := ⟨_, rfl⟩
  have E06 := E05.trans (E56.mono (by omega))
  have E07 : Ext H.n H h7 := hh7 ▸ E06.put _ (Nat.le_refl _)
  have P7 : h7.at H.n = some (.cells [a, .sl p 0 (r.ops ++ [id]).length (.un 1)] 27) := hh7 ▸ at_put_same _ lP6
  have S7 : h7.at hp.n = _ := (hh7 ▸ at_put_ne _ (by omega) : h7.at hp.n = h6.at hp.n).trans S6
  have R7 : h7.at p = _ := (hh7 ▸ at_put_ne _ (by omega) : h7.at p = h6.at p).trans p2
  have oa7 : OwnX setC 35 hA.n h7 a 39 r.live := hh7 ▸ oa6.putLt (by omega)
  have LP7 := ld_at (T := tabOf Tryz.prog NT0) P7
  have lP7 := at_lt P7
  simp only [core, zrA, zrS, zrM, zrL, zrE, reduceCtorEq, zrD, ziE, ziL, ziN, P6, lP6, a1, a2, w1, w2, ← hh7, LP7, lP7]
  refine sortT_c R7 (by rw [List.length_append]; simp) (by rw [List.length_append, List.length_singleton]; omega) ?_
  rw [hsrt]
  obtain ⟨h8, hh8⟩ : ∃ h8, h8 = h7.put p (.cells ((insT id r.ops).flatMap txC) 9) := ⟨_, rfl⟩
  have lR7 := at_lt R7
  have E08 : Ext H.n H h8 := hh8 ▸ E07.put _ (by omega)
  have P8 : h8.at H.n = _ := (hh8 ▸ at_put_ne _ (by omega) : h8.at H.n = h7.at H.n).trans P7
  have S8 : h8.at hp.n = _ := (hh8 ▸ at_put_ne _ (by omega) : h8.at hp.n = h7.at hp.n).trans S7
  have R8 : h8.at p = some (.cells ((insT id r.ops).flatMap txC) 9) := hh8 ▸ at_put_same _ lR7
  have oa8 : OwnX setC 35 hA.n h8 a 39 r.live := oa7.keep fun c off n cap hv => hh8 ▸ at_put_ne _ fun hh => by
    obtain ⟨-, -, l, hl⟩ := oa7.blk hv
    rw [← hh, R7] at hl
    cases hl
  have LP8 := ld_at (T := tabOf Tryz.prog NT0) P8
  have lP8 := at_lt P8
  have lS8 := at_lt S8
  obtain ⟨h9, hh9⟩ : ∃ h9, h9 = h8.put hp.n (.cells [a, .sl p 0 (r.ops ++ [id]).length (.un 1)] 27) := ⟨_, rfl⟩
  have E09 : Ext H.n H h9 := hh9 ▸ E08.put _ (by omega)
  have S9 : h9.at hp.n = some (.cells [a, .sl p 0 (r.ops ++ [id]).length (.un 1)] 27) := hh9 ▸ at_put_same _ lS8
  have R9 : h9.at p = _ := (hh9 ▸ at_put_ne _ (by omega) : h9.at p = h8.at p).trans R8
  have oa9 : OwnX setC 35 hA.n h9 a 39 r.live := hh9 ▸ oa8.putLt (by omega)
  have LS9 := ld_at (T := tabOf Tryz.prog NT0) S9
  have lS9 := at_lt S9
  simp only [core, zrA, zrS, zrM, zrL, zrE, reduceCtorEq, zrD, ziE, ziL, ziN, ← hh8, LP8, lP8, a1, a2, w1, w2, S8, lS8, ← hh9, LS9, lS9]
  rw [hkn]
  exact ⟨E09, _, rfl, a, _, rfl, oa9.mono (by omega), .inr (.inr ⟨p, [], by omega, by rw [(insT_perm id r.ops).length_eq], by rw [List.append_nil]; exact R9⟩)⟩
end Go.Proofs.YtjicijhakcmifaaGreatDoor.Ex
end

section

set_option linter.unusedSimpArgs false
set_option linter.unusedVariables false
set_option maxRecDepth 10000
set_option maxHeartbeats 4000000
namespace Go.Proofs.YtjicijhakcmifaaGreatDoor.Ex
open Go
theorem hexed0_c {H : AH} {cs : List AV} {Q : AV → AH → Prop} (hc : u8L cs = some (List.replicate 32 0)) (hq : Q (.lit (.string ⟨z64.toArray⟩)) H) : WC Tryz.prog (tabOf Tryz.prog NT0) S0 32 [.agg cs] H Q := by
  refine WC_sum Tryz.func32 rfl (g := sHex0) rfl ?_ hq
  simp only [sHex0, decide_eq_true hc, cond_true]
theorem sha0_c {H : AH} {Q : AV → AH → Prop} (hq : Q (.tup [.agg zs32, .lit (.bool true)]) H) : WC Tryz.prog (tabOf Tryz.prog NT0) S0 37 [.lit (.string ⟨z64.toArray⟩)] H Q :=
  WC_sum Tryz.func37 rfl (g := sSha0) rfl rfl hq
/-- A builder that holds these bytes. -/
def Bld (n0 : Nat) (h : AH) (b : Nat) (bs : List UInt8) : Prop :=
  (bs = [] ∧ h.at b = some (.cells [.lit (.pointer none), .lit (.slice none 0 0)] 71)) ∨
  (bs ≠ [] ∧ ∃ p, n0 ≤ p ∧ h.at p = some (.cells (bL bs) 5) ∧ h.at b = some (.cells [.ptr b 0, .sl p 0 bs.length (.un 1)] 71))
theorem Bld.ext {n0 m : Nat} {h h' : AH} {b : Nat} {bs : List UInt8} (hb : Bld n0 h b bs) (he : Ext m h h') (hm : h.n ≤ m) : Bld n0 h' b bs := by
  rcases hb with ⟨h1, h2⟩ | ⟨h1, p, h2, h3, h4⟩
  · exact .inl ⟨h1, (he.2 _ (by have := at_lt h2; omega)).trans h2⟩
  · exact .inr ⟨h1, p, h2, (he.2 _ (by have := at_lt h3; omega)).trans h3, (he.2 _ (by have := at_lt h4; omega)).trans h4⟩
theorem Bld.lt {n0 : Nat} {h : AH} {b : Nat} {bs : List UInt8} (hb : Bld n0 h b bs) : b < h.n := by
  rcases hb with ⟨h1, h2⟩ | ⟨h1, p, h2, h3, h4⟩
  · exact at_lt h2
  · exact at_lt h4
theorem bL_len (l : List UInt8) : (bL l).length = l.length := by unfold bL; simp
theorem bL_app (a b : List UInt8) : bL (a ++ b) = bL a ++ bL b := by unfold bL; simp
theorem bL_one (l : List UInt8) : (bL l).all AV.one = true := by
  rw [List.all_eq_true]
  intro v hv
  obtain ⟨x, _, rfl⟩ := List.mem_map.1 hv
  rfl
/-- A text behind bytes. -/
theorem app_str {h : AH} {s : AV} {n : Nat} {l : List UInt8} (hs : lenA s = some n) (hl : n + l.length ≤ 140737488355328) :
    appendA (tabOf Tryz.prog NT0) h 42 9 s (.lit (.string ⟨l.toArray⟩)) = appendB h 5 1 l.length (bL l) s := by
  have k1 : und (tabOf Tryz.prog NT0) 42 = some (.slice 5) := by kernel_rfl
  have k2 : und (tabOf Tryz.prog NT0) 9 = some .string := by kernel_rfl
  have hz : sizeT (tabOf Tryz.prog NT0) 5 = some 1 := by kernel_rfl
  have hzv : zeroT (tabOf Tryz.prog NT0) 5 = some (.lit (.int .u8 0)) := by kernel_rfl
  have hb : bytesT (tabOf Tryz.prog NT0) 5 = some 1 := by kernel_rfl
  simp only [sizeT, zeroT, bytesT, Option.map_eq_some_iff] at hz hzv hb
  obtain ⟨i, hi, e1⟩ := hz
  obtain ⟨i2, hi2, e2⟩ := hzv
  obtain ⟨i3, hi3, e3⟩ := hb
  rw [hi] at hi2 hi3
  obtain rfl := Option.some.inj hi2
  obtain rfl := Option.some.inj hi3
  have hsz : (⟨l.toArray⟩ : ByteArray).size = l.length := rfl
  have hbc : byteCells ⟨l.toArray⟩ = bL l := rfl
  unfold appendA
  rw [k1, k2]
  have hx : lenA (.lit (.string ⟨l.toArray⟩)) = some l.length := rfl
  simp only [hi, hx, hs, e1, e2, e3]
  rw [show (isSrcD 1 .string && Nat.blt 0 1 && Nat.ble 1 200 && Nat.beq (AV.lit (.int .u8 0)).cells.length 1 && Nat.ble (n + l.length) 4611686018427387904 && Nat.ble ((n + l.length) * 1) 140737488355328) = true by
    simp only [Bool.and_eq_true, Nat.ble_eq, Nat.blt_eq]
    exact ⟨⟨⟨⟨⟨rfl, by decide⟩, by decide⟩, rfl⟩, by omega⟩, by omega⟩]
  have hsrc : srcA h 1 (.lit (.string ⟨l.toArray⟩)) = some (bL l) := rfl
  simp only [cond_true, hsrc]
  rw [show (Nat.beq (bL l).length (l.length * 1) && (bL l).all AV.one) = true by rw [bL_len, bL_one, Nat.mul_one, Nat.beq_refl]; rfl]
  rfl
theorem WriteString_x {n0 b : Nat} {H : AH} {bs s : List UInt8} (hB : Bld n0 H b bs) (hb0 : b < n0) (hn0 : n0 ≤ H.n) (hs : s ≠ []) (hl : bs.length + s.length ≤ 1000000000000) :
    WC Tryz.prog (tabOf Tryz.prog NT0) S0 31 [.ptr b 0, .lit (.string ⟨s.toArray⟩)] H fun _ h' => Bld n0 h' b (bs ++ s) ∧ Ext b H h' := by
  refine WC_fn Tryz.func31 rfl rfl ?_
  have hm0 : Nat.beq s.length 0 = false := by
    rw [Bool.eq_false_iff]; intro hh; exact hs (List.eq_nil_of_length_eq_zero (Nat.eq_of_beq_eq_true hh))
  have hne : bs ++ s ≠ [] := fun hh => hs (List.append_eq_nil_iff.1 hh).2
  have hsz : (⟨s.toArray⟩ : ByteArray).size = s.length := rfl
  rcases hB with ⟨rfl, A⟩ | ⟨h1, p, hp, B, A⟩
  · have lA := at_lt A
    obtain ⟨h1, hh1⟩ : ∃ h1, h1 = H.put b (.cells [.ptr b 0, .lit (.slice none 0 0)] 71) := ⟨_, rfl⟩
    have n1 : h1.n = H.n := by rw [hh1, n_put]
    have E1 : Ext b H h1 := hh1 ▸ (Ext.refl _ _).put _ (Nat.le_refl _)
    have A1 : h1.at b = some (.cells [.ptr b 0, .lit (.slice none 0 0)] 71) := hh1 ▸ at_put_same _ lA
    have LA1 := ld_at (T := tabOf Tryz.prog NT0) A1
    have lA1 := at_lt A1
    simp only [core, zrA, zrS, zrM, zrL, zrE, reduceCtorEq, zrD, ziE, ziL, ziN, Tryz.ntmps31]
    refine WC_sum Tryz.func53 rfl (g := sCopyCheck) (v := .tup []) (h' := h1) rfl (by simp only [sCopyCheck, A, Nat.beq_refl, cond_true, hh1]) ?_
    have happ : appendA (tabOf Tryz.prog NT0) h1 42 9 (.lit (.slice none 0 0)) (.lit (.string ⟨s.toArray⟩)) = some (.sl h1.n 0 s.length (.un 1), h1.push (.cells (bL s) 5)) := by
      rw [app_str (n := 0) rfl (by omega)]
      unfold appendB
      rw [hm0]
      rfl
    obtain ⟨h2, hh2⟩ : ∃ h2, h2 = h1.push (.cells (bL s) 5) := ⟨_, rfl⟩
    rw [← hh2] at happ
    have E2 : Ext h1.n h1 h2 := hh2 ▸ (Ext.refl _ _).push _ (Nat.le_refl _)
    have A2 := (E2.2 _ lA1).trans A1
    have B2 : h2.at h1.n = some (.cells (bL s) 5) := hh2 ▸ at_push_n _ _
    have lA2 := at_lt A2
    simp only [core, zrA, zrS, zrM, zrL, zrE, reduceCtorEq, zrD, ziE, ziL, ziN, LA1, lA1, happ, A2, lA2, a_slen, isStrV_lit, strV_lit]
    refine ⟨.inr ⟨hne, h1.n, by omega, (at_put_ne _ (by omega)).trans B2, ?_⟩, (E1.trans (E2.mono (by omega))).put _ (Nat.le_refl _)⟩
    rw [at_put_same _ lA2]
  · have lA := at_lt A
    have LA := ld_at (T := tabOf Tryz.prog NT0) A
    simp only [core, zrA, zrS, zrM, zrL, zrE, reduceCtorEq, zrD, ziE, ziL, ziN, Tryz.ntmps31]
    refine WC_sum Tryz.func53 rfl (g := sCopyCheck) (v := .tup []) (h' := H) rfl (by simp only [sCopyCheck, A, Nat.beq_refl, cond_true, Bool.and_self]) ?_
    have hg : getB H p = some (bL bs, 5) := by unfold getB; rw [B]
    have hc : cut (bL bs) 0 (bs.length * 1) = some (bL bs) := by
      unfold cut
      rw [if_pos (by rw [bL_len]; omega), List.drop_zero, Nat.mul_one, ← bL_len, List.take_length]
    have happ : appendA (tabOf Tryz.prog NT0) H 42 9 (.sl p 0 bs.length (.un 1)) (.lit (.string ⟨s.toArray⟩)) = some (.sl H.n 0 (bs.length + s.length) (.un 1), (H.put p .gone).push (.cells (bL bs ++ bL s) 5)) := by
      rw [app_str (n := bs.length) rfl (by omega)]
      unfold appendB
      simp only [hm0, hg, hc, cond_false, Nat.beq_refl, Bool.and_self, cond_true]
    obtain ⟨h2, hh2⟩ : ∃ h2, h2 = (H.put p .gone).push (.cells (bL bs ++ bL s) 5) := ⟨_, rfl⟩
    rw [← hh2] at happ
    have E2 : Ext n0 H h2 := hh2 ▸ ((Ext.refl n0 H).put .gone hp).push _ (by rw [n_put]; exact hn0)
    have A2 := (E2.2 _ hb0).trans A
    have B2 : h2.at H.n = some (.cells (bL bs ++ bL s) 5) := by
      have := at_push_n (H.put p .gone) (.cells (bL bs ++ bL s) 5)
      rw [n_put] at this
      rw [hh2]; exact this
    have lA2 := at_lt A2
    simp only [core, zrA, zrS, zrM, zrL, zrE, reduceCtorEq, zrD, ziE, ziL, ziN, LA, lA, happ, A2, lA2, a_slen, isStrV_lit, strV_lit]
    refine ⟨.inr ⟨hne, H.n, by omega, (at_put_ne _ (by omega)).trans (by rw [B2, bL_app]), ?_⟩, (E2.mono (by omega)).put _ (Nat.le_refl _)⟩
    rw [at_put_same _ lA2, List.length_append]
end Go.Proofs.YtjicijhakcmifaaGreatDoor.Ex
end

section

set_option linter.unusedSimpArgs false
set_option linter.unusedVariables false
set_option maxRecDepth 10000
set_option maxHeartbeats 4000000
namespace Go.Proofs.YtjicijhakcmifaaGreatDoor.Ex
open Go
section
variable {P : Program} {T : TT} {t : TM} {h : AH} {d : Option Tmp} {ty : TypeId} {ps : String} {af : Array Edge} {g : Option (Nat × Bool)}
theorem a_bin_st {op : BinOp} {e f : TypeId} {j : Nat} {n : ByteArray} : aop P T ⟨d, .binOp op e (.const (.string n)) (.tmp j) f, ty, ps, af, g⟩ t h = (match t.get j with
   | .lit (.string b) => ofPV h (pur P (binOp op e (Value.string n) (Value.string b)))
   | _ => aBin P T ⟨d, .binOp op e (.const (.string n)) (.tmp j) f, ty, ps, af, g⟩ t h op e (.const (.string n)) (.tmp j)) := by
  rw [a_bin]
  split
  · rename_i b hb
    unfold aBin
    rw [ev_tmp, hb]
    rfl
  · rfl
theorem a_conS {i : Nat} {bs : List UInt8} (ht : t.get i = .lit (.string ⟨bs.toArray⟩)) (hz : Nat.ble bs.length 16777216 = true) : aConR Tryz.prog (tabOf Tryz.prog NT0) ⟨d, .convert 9 42 (.tmp i), ty, ps, af, g⟩ t h 9 42 (.tmp i) = some (.val (.sl h.n 0 bs.length (.un 1)), h.push (.frz (bL bs) 5)) := by
  have hu1 : und (tabOf Tryz.prog NT0) 42 = some (.slice 5) := by kernel_rfl
  have hu2 : und (tabOf Tryz.prog NT0) 9 = some .string := by kernel_rfl
  have hu3 : und (tabOf Tryz.prog NT0) 5 = some (.int .u8) := by kernel_rfl
  have hl : litOp Tryz.prog ⟨d, .convert 9 42 (.tmp i), ty, ps, af, g⟩ t = none := by
    unfold litOp
    split
    · have he : litEnv t (.tmp i) = Value.string ⟨bs.toArray⟩ := by unfold litEnv; rw [ev_tmp, ht]; rfl
      have hk : ∀ s : ByteArray, pur Tryz.prog (do pure (Next.value (← convert 9 42 (Value.string s)))) = none := fun s => by kernel_rfl
      show ofPR (pur Tryz.prog (do pure (Next.value (← convert 9 42 (litEnv t (.tmp i)))))) = none
      rw [he, hk]
      rfl
    · rfl
  unfold aConR aConvert
  rw [ev_tmp, ht]
  unfold orLit
  rw [hl]
  have hsz : (ByteArray.mk bs.toArray).size = bs.length := by rfl
  have hbc : byteCells ⟨bs.toArray⟩ = bL bs := by unfold byteCells bL; simp
  simp only [aConv1, hu1, hu2, hu3, hsz, hz, cond_true, hbc]
end
/- The line of an open put, of a set. -/
def lnO (id : List UInt8) : List UInt8 := [111, 112, 101, 110, 32] ++ id
def lnS (s : SetD) : List UInt8 := [108, 105, 118, 101, 32] ++ s.name ++ [32] ++ s.id ++ [32] ++ Lib.itoa s.size ++ [32] ++ z64
def linesF (r : RootD) : List (List UInt8) := [114, 111, 111, 116] :: (r.ops.map lnO ++ r.live.map lnS)
/-- Lines as a text. -/
def catL (ls : List (List UInt8)) : List UInt8 := ls.flatMap fun l => l ++ [10]
def printF (r : RootD) : List UInt8 := catL (linesF r)
theorem catL_snoc (ls : List (List UInt8)) (l : List UInt8) : catL (ls ++ [l]) = catL ls ++ (l ++ [10]) := by unfold catL; rw [List.flatMap_append]; simp
theorem catL_len {k : Nat} : ∀ {ls : List (List UInt8)}, (∀ l ∈ ls, l.length ≤ k) → (catL ls).length ≤ ls.length * (k + 1)
  | [], _ => Nat.zero_le _
  | l :: ls, h => by
    have h1 := h l (by simp)
    have h2 := catL_len (ls := ls) fun x hx => h x (by simp [hx])
    show ((l ++ [10]) ++ catL ls).length ≤ _
    have h3 : (l :: ls).length * (k + 1) = ls.length * (k + 1) + (k + 1) := by rw [List.length_cons, Nat.succ_mul]
    rw [List.length_append, List.length_append, List.length_singleton, h3]
    omega
/-- What is asked of a root that is printed here. -/
structure Pr (r : RootD) : Prop where
  nO : r.ops.length ≤ 16
  nL : r.live.length ≤ 16
  lO : ∀ x ∈ r.ops, x.length ≤ 100
  lL : ∀ s ∈ r.live, s.id.length ≤ 100 ∧ s.name.length ≤ 40 ∧ s.sha = (fun _ => 0) ∧ 0 ≤ s.size ∧ s.size < 100
theorem itoa_len {n : Int} (h0 : 0 ≤ n) (h1 : n < 100) : (Lib.itoa n).length ≤ 2 := by
  have : n ∈ (List.range 100).map (fun k : Nat => (k : Int)) := List.mem_map.2 ⟨n.toNat, List.mem_range.2 (by omega), by omega⟩
  have key : ∀ n ∈ (List.range 100).map (fun k : Nat => (k : Int)), (Lib.itoa n).length ≤ 2 := by decide +kernel
  exact key n this
theorem u8L_noughts {x : SetD} (h : x.sha = fun _ => 0) : u8L [.lit (.int .u8 (x.sha 0)), .lit (.int .u8 (x.sha 1)), .lit (.int .u8 (x.sha 2)), .lit (.int .u8 (x.sha 3)), .lit (.int .u8 (x.sha 4)), .lit (.int .u8 (x.sha 5)), .lit (.int .u8 (x.sha 6)), .lit (.int .u8 (x.sha 7)), .lit (.int .u8 (x.sha 8)), .lit (.int .u8 (x.sha 9)), .lit (.int .u8 (x.sha 10)), .lit (.int .u8 (x.sha 11)), .lit (.int .u8 (x.sha 12)), .lit (.int .u8 (x.sha 13)), .lit (.int .u8 (x.sha 14)), .lit (.int .u8 (x.sha 15)), .lit (.int .u8 (x.sha 16)), .lit (.int .u8 (x.sha 17)), .lit (.int .u8 (x.sha 18)), .lit (.int .u8 (x.sha 19)), .lit (.int .u8 (x.sha 20)), .lit (.int .u8 (x.sha 21)), .lit (.int .u8 (x.sha 22)), .lit (.int .u8 (x.sha 23)), .lit (.int .u8 (x.sha 24)), .lit (.int .u8 (x.sha 25)), .lit (.int .u8 (x.sha 26)), .lit (.int .u8 (x.sha 27)), .lit (.int .u8 (x.sha 28)), .lit (.int .u8 (x.sha 29)), .lit (.int .u8 (x.sha 30)), .lit (.int .u8 (x.sha 31))] = some (List.replicate 32 0) := by
  rw [h]; rfl
theorem PrintRoot_x {F : Nat → Prop} {H : AH} {vl vo : AV} {r : RootD} {e1 : TypeId} (hl : IsSl RSet F H vl r.live) (ho : IsSl RTx F H vo r.ops) (hr : Pr r) (hT : H.at 1 = some (.frz tabL e1)) :
    WC Tryz.prog (tabOf Tryz.prog NT0) S0 9 [.agg [vl, vo]] H fun v h' => Ext H.n H h' ∧ ∃ g, H.n ≤ g ∧ v = .sl g 0 (printF r).length (.un 1) ∧ h'.at g = some (.frz (bL (printF r)) 5) := by
  refine WC_fn Tryz.func9 rfl rfl ?_
  have l1 := hl.one
  have l2 := hl.isSl
  have l3 := hl.lenD
  have o1 := ho.one
  have o2 := ho.isSl
  have o3 := ho.lenD
  obtain ⟨n, hN⟩ : ∃ n, n = r.ops.length := ⟨_, rfl⟩
  obtain ⟨m, hM⟩ : ∃ m, m = r.live.length := ⟨_, rfl⟩
  rw [← hN] at o3
  rw [← hM] at l3
  have lT := at_lt hT
  have hn16 := hr.nO
  have hm16 := hr.nL
  obtain ⟨hp, hhp⟩ : ∃ hp, hp = H.push (.cells [vl, vo] 27) := ⟨_, rfl⟩
  have EP : Ext H.n H hp := hhp ▸ (Ext.refl _ _).push _ (Nat.le_refl _)
  have nP : hp.n = H.n + 1 := by rw [hhp, n_push]
  have P0 : hp.at H.n = some (.cells [vl, vo] 27) := hhp ▸ at_push_n _ _
  obtain ⟨hb, hhb⟩ : ∃ hb, hb = hp.push (.cells [.lit (.pointer none), .lit (.slice none 0 0)] 71) := ⟨_, rfl⟩
  have EB : Ext hp.n hp hb := hhb ▸ (Ext.refl _ _).push _ (Nat.le_refl _)
  have nB : hb.n = hp.n + 1 := by rw [hhb, n_push]
  have B0 : Bld (hp.n + 1) hb hp.n [] := .inl ⟨rfl, hhb ▸ at_push_n _ _⟩
  have fin : ∀ h : AH, Ext hp.n hb h → Ext H.n H h ∧ h.at H.n = some (.cells [vl, vo] 27) ∧ h.at 1 = some (.frz tabL e1) := fun h e =>
    have e1 : Ext hp.n hp h := EB.trans e
    have e2 : Ext H.n H h := EP.trans (e1.mono EP.1)
    ⟨e2, (e1.2 _ (at_lt P0)).trans P0, (e2.2 _ lT).trans hT⟩
  simp only [core, zrA, zrS, zrM, zrL, zrE, reduceCtorEq, zrD, ziE, ziL, ziN, Tryz.ntmps9, l1, l2, o1, o2, ← hhp, ← hhb]
  refine (WriteString_x (s := [114, 111, 111, 116, 10]) B0 (Nat.lt_succ_self _) (by omega) (by simp) (by simp)).mono ?_
  rintro w0 h2 ⟨B2, E2⟩
  obtain ⟨-, R2, -⟩ := fin h2 E2
  have LR2 := ld_at (T := tabOf Tryz.prog NT0) R2
  have lR2 := at_lt R2
  have hin : ∀ (ls : List (List UInt8)) (l : List UInt8), (catL ls ++ l) ++ [10] = catL (ls ++ [l]) := fun ls l => by rw [catL_snoc, List.append_assoc]
  have B2' : Bld (hp.n + 1) h2 hp.n (catL ([114, 111, 111, 116] :: (r.ops.take 0).map lnO)) := B2
  have lenO : ∀ i, (catL ([114, 111, 111, 116] :: (r.ops.take i).map lnO)).length ≤ 17 * 111 := fun i => by
    refine Nat.le_trans (catL_len (k := 110) fun l hl => ?_) (Nat.mul_le_mul_right _ ?_)
    · rcases List.mem_cons.1 hl with rfl | hl
      · simp
      · obtain ⟨x, hx, rfl⟩ := List.mem_map.1 hl
        have := hr.lO x (List.mem_of_mem_take hx)
        unfold lnO
        rw [List.length_append]
        simp only [List.length_cons, List.length_nil]
        omega
    · rw [List.length_cons, List.length_map, List.length_take]; omega
  have lnS_len : ∀ s ∈ r.live, (lnS s).length ≤ 300 := fun s hs => by
    obtain ⟨h1, h2, -, h4, h5⟩ := hr.lL s hs
    have := itoa_len h4 h5
    unfold lnS
    simp only [List.length_append, List.length_cons, List.length_nil]
    have : z64.length = 64 := by unfold z64; rw [List.length_replicate]
    omega
  have lenS : ∀ i, (catL ([114, 111, 111, 116] :: (r.ops.map lnO ++ (r.live.take i).map lnS))).length ≤ 33 * 301 := fun i => by
    refine Nat.le_trans (catL_len (k := 300) fun l hl => ?_) (Nat.mul_le_mul_right _ ?_)
    · rcases List.mem_cons.1 hl with rfl | hl
      · simp
      · rcases List.mem_append.1 hl with hl | hl
        · obtain ⟨x, hx, rfl⟩ := List.mem_map.1 hl
          have := hr.lO x hx
          unfold lnO
          rw [List.length_append]
          simp only [List.length_cons, List.length_nil]
          omega
        · obtain ⟨x, hx, rfl⟩ := List.mem_map.1 hl
          exact lnS_len x (List.mem_of_mem_take hx)
    · rw [List.length_cons, List.length_append, List.length_map, List.length_map, List.length_take]; omega
  simp only [core, zrA, zrS, zrM, zrL, zrE, reduceCtorEq, zrD, ziE, ziL, ziN, LR2, lR2, l1, l2, l3, o1, o2, o3]
  refine WB_for n (fun i t h => Ext hp.n hb h ∧ Bld (hp.n + 1) h hp.n (catL ([114, 111, 111, 116] :: (r.ops.take i).map lnO)) ∧ t.n = 50 ∧ t.get 1 = .ptr H.n 0 ∧ t.get 3 = .ptr hp.n 0 ∧ t.get 10 = vo ∧ t.get 11 = .lit (.int .i64 n) ∧ t.get 12 = .lit (.int .i64 i)) ?_ ?_ _ _ ?_
  · rintro i t h hlt hc2 ⟨E, B, hn, g1, g3, g10, g11, g12⟩ ih
    have hwi := wrap_succ (n := n) hlt (by omega)
    obtain ⟨x, hx⟩ : ∃ x, r.ops[i]? = some x := ⟨_, List.getElem?_eq_getElem (by omega)⟩
    obtain ⟨EH, R, T1⟩ := fin h E
    have l0 : loadA (tabOf Tryz.prog NT0) h 9 (slB vo) (slO vo + i) = some (.lit (.string ⟨x.toArray⟩)) := by
      obtain ⟨cc, hc1, hld, hld0⟩ := ho.atE (T := tabOf Tryz.prog NT0) EH RTx_z hx
      obtain rfl := RTx_is.1 hc1
      have ld := hld0 9 1 (by kernel_rfl) (by decide) (by decide)
      rw [Nat.mul_one] at ld
      rw [ld]
      rfl
    have hxl := hr.lO x (List.mem_of_getElem? hx)
    have a1 : ∀ {P : Program} {e : TypeId}, pur P (binOp .add e (Value.string ⟨#[111, 112, 101, 110, 32]⟩) (Value.string ⟨x.toArray⟩)) = some (.ok (Value.string ⟨(lnO x).toArray⟩)) := pur_sadd (a := [111, 112, 101, 110, 32]) (by simp only [List.length_cons, List.length_nil]; omega)
    have a2 : ∀ {P : Program} {e : TypeId}, pur P (binOp .add e (Value.string ⟨(lnO x).toArray⟩) (Value.string ⟨#[10]⟩)) = some (.ok (Value.string ⟨(lnO x ++ [10]).toArray⟩)) := pur_sadd (b := [10]) (by unfold lnO; simp only [List.length_append, List.length_cons, List.length_nil]; omega)
    have htk : r.ops.take (i + 1) = r.ops.take i ++ [x] := by
      obtain ⟨h1, h2⟩ := List.getElem?_eq_some_iff.1 hx
      rw [List.take_succ_eq_append_getElem h1, h2]
    have hll := lenO i
    have hlx : (lnO x).length ≤ 110 := by unfold lnO; simp only [List.length_append, List.length_cons, List.length_nil]; omega
    simp only [core, zrA, zrS, zrM, zrL, zrE, reduceCtorEq, zrD, ziE, ziL, ziN, a_bin_st, hn, g1, g3, g10, g11, g12, hlt, hc2, o1, o2, o3, l0, a1, a2, ofPV_str]
    refine (WriteString_x (s := lnO x ++ [10]) B (Nat.lt_succ_self _) (by have := B.lt; omega) (by simp) (by rw [List.length_append, List.length_singleton]; omega)).mono ?_
    rintro w1 h3 ⟨B3, E3⟩
    simp only [core, zrA, zrS, zrM, zrL, zrE, reduceCtorEq, zrD, ziE, ziL, ziN, hn, g1, g3, g10, g11, g12, hwi]
    refine ih _ _ ⟨E.trans E3, ?_, ?_⟩
    · rw [htk, List.map_append, ← List.cons_append, List.map_singleton, catL_snoc]
      exact B3
    · simp only [core, zrA, zrS, zrM, zrL, zrE, reduceCtorEq, zrD, ziE, ziL, ziN, hn, g1, g3, g10, g11, g12]
  · rintro t h hc2 ⟨E, B, hn, g1, g3, g10, g11, g12⟩
    obtain ⟨EH, R, T1⟩ := fin h E
    have LR := ld_at (T := tabOf Tryz.prog NT0) R
    have lR := at_lt R
    rw [hN, List.take_length] at B
    simp only [core, zrA, zrS, zrM, zrL, zrE, reduceCtorEq, zrD, ziE, ziL, ziN, hn, g1, g3, g10, g11, g12, hc2, LR, lR, l1, l2, l3]
    refine WB_for m (fun i t h => Ext hp.n hb h ∧ Bld (hp.n + 1) h hp.n (catL ([114, 111, 111, 116] :: (r.ops.map lnO ++ (r.live.take i).map lnS))) ∧ t.n = 50 ∧ t.get 1 = .ptr H.n 0 ∧ t.get 3 = .ptr hp.n 0 ∧ t.get 22 = vl ∧ t.get 23 = .lit (.int .i64 m) ∧ t.get 24 = .lit (.int .i64 i)) ?_ ?_ _ _ ?_
    · rintro i t h hlt hc3 ⟨E, B, hn, g1, g3, g22, g23, g24⟩ ih
      have hwi := wrap_succ (n := m) hlt (by omega)
      obtain ⟨x, hx⟩ : ∃ x, r.live[i]? = some x := ⟨_, List.getElem?_eq_getElem (by omega)⟩
      have hxm := List.mem_of_getElem? hx
      obtain ⟨EH, R, T1⟩ := fin h E
      obtain ⟨cc, hc1, hld, hld0⟩ := hl.atE (T := tabOf Tryz.prog NT0) EH RSet_z hx
      obtain rfl := RSet_is.1 hc1
      obtain ⟨k1, k2, k3, k4, k5⟩ := hr.lL x hxm
      obtain ⟨hA, hhA⟩ : ∃ hA, hA = h.push (.cells (setC x) 39) := ⟨_, rfl⟩
      have eA : Ext h.n h hA := hhA ▸ (Ext.refl _ _).push _ (Nat.le_refl _)
      have XA : hA.at h.n = some (.cells (setC x) 39) := hhA ▸ at_push_n _ _
      have lB := B.lt
      have EA := E.trans (eA.mono (by omega))
      have BA := B.ext eA (Nat.le_refl _)
      have TA := (fin hA EA).2.2
      have LXA := ld_at (T := tabOf Tryz.prog NT0) XA
      have lXA := at_lt XA
      have mA := eA.1
      unfold setC at hhA XA hld hld0 LXA
      have htk : r.live.take (i + 1) = r.live.take i ++ [x] := by
        obtain ⟨h1, h2⟩ := List.getElem?_eq_some_iff.1 hx
        rw [List.take_succ_eq_append_getElem h1, h2]
      have hll := lenS i
      have hlx := lnS_len x hxm
      have hit := itoa_len k4 k5
      obtain ⟨dg, hdg⟩ : ∃ dg, dg = Lib.itoa x.size := ⟨_, rfl⟩
      rw [← hdg] at hit
      have hz : z64.length = 64 := by unfold z64; rw [List.length_replicate]
      obtain ⟨y1, hy1⟩ : ∃ y, y = [108, 105, 118, 101, 32] ++ x.name := ⟨_, rfl⟩
      have ly1 : y1.length = _ := congrArg List.length hy1
      simp only [List.length_append, List.length_cons, List.length_nil] at ly1
      have s1 : ∀ {P : Program} {e : TypeId}, pur P (binOp .add e (Value.string ⟨#[108, 105, 118, 101, 32]⟩) (Value.string ⟨x.name.toArray⟩)) = some (.ok (Value.string ⟨y1.toArray⟩)) := by
        rw [hy1]
        exact pur_sadd (a := [108, 105, 118, 101, 32]) (by simp only [List.length_cons, List.length_nil]; omega)
      obtain ⟨y2, hy2⟩ : ∃ y, y = y1 ++ [32] := ⟨_, rfl⟩
      have ly2 : y2.length = _ := congrArg List.length hy2
      simp only [List.length_append, List.length_cons, List.length_nil] at ly2
      have s2 : ∀ {P : Program} {e : TypeId}, pur P (binOp .add e (Value.string ⟨y1.toArray⟩) (Value.string ⟨#[32]⟩)) = some (.ok (Value.string ⟨y2.toArray⟩)) := by
        rw [hy2]
        exact pur_sadd (b := [32]) (by simp only [List.length_cons, List.length_nil]; omega)
      obtain ⟨y3, hy3⟩ : ∃ y, y = y2 ++ x.id := ⟨_, rfl⟩
      have ly3 : y3.length = _ := congrArg List.length hy3
      simp only [List.length_append, List.length_cons, List.length_nil] at ly3
      have s3 : ∀ {P : Program} {e : TypeId}, pur P (binOp .add e (Value.string ⟨y2.toArray⟩) (Value.string ⟨x.id.toArray⟩)) = some (.ok (Value.string ⟨y3.toArray⟩)) := by
        rw [hy3]
        exact pur_sadd (by omega)
      obtain ⟨y4, hy4⟩ : ∃ y, y = y3 ++ [32] := ⟨_, rfl⟩
      have ly4 : y4.length = _ := congrArg List.length hy4
      simp only [List.length_append, List.length_cons, List.length_nil] at ly4
      have s4 : ∀ {P : Program} {e : TypeId}, pur P (binOp .add e (Value.string ⟨y3.toArray⟩) (Value.string ⟨#[32]⟩)) = some (.ok (Value.string ⟨y4.toArray⟩)) := by
        rw [hy4]
        exact pur_sadd (b := [32]) (by simp only [List.length_cons, List.length_nil]; omega)
      obtain ⟨y5, hy5⟩ : ∃ y, y = y4 ++ dg := ⟨_, rfl⟩
      have ly5 : y5.length = _ := congrArg List.length hy5
      simp only [List.length_append, List.length_cons, List.length_nil] at ly5
      have s5 : ∀ {P : Program} {e : TypeId}, pur P (binOp .add e (Value.string ⟨y4.toArray⟩) (Value.string ⟨dg.toArray⟩)) = some (.ok (Value.string ⟨y5.toArray⟩)) := by
        rw [hy5]
        exact pur_sadd (by omega)
      obtain ⟨y6, hy6⟩ : ∃ y, y = y5 ++ [32] := ⟨_, rfl⟩
      have ly6 : y6.length = _ := congrArg List.length hy6
      simp only [List.length_append, List.length_cons, List.length_nil] at ly6
      have s6 : ∀ {P : Program} {e : TypeId}, pur P (binOp .add e (Value.string ⟨y5.toArray⟩) (Value.string ⟨#[32]⟩)) = some (.ok (Value.string ⟨y6.toArray⟩)) := by
        rw [hy6]
        exact pur_sadd (b := [32]) (by simp only [List.length_cons, List.length_nil]; omega)
      obtain ⟨y7, hy7⟩ : ∃ y, y = y6 ++ z64 := ⟨_, rfl⟩
      have ly7 : y7.length = _ := congrArg List.length hy7
      simp only [List.length_append, List.length_cons, List.length_nil] at ly7
      have s7 : ∀ {P : Program} {e : TypeId}, pur P (binOp .add e (Value.string ⟨y6.toArray⟩) (Value.string ⟨z64.toArray⟩)) = some (.ok (Value.string ⟨y7.toArray⟩)) := by
        rw [hy7]
        exact pur_sadd (by omega)
      obtain ⟨y8, hy8⟩ : ∃ y, y = y7 ++ [10] := ⟨_, rfl⟩
      have ly8 : y8.length = _ := congrArg List.length hy8
      simp only [List.length_append, List.length_cons, List.length_nil] at ly8
      have s8 : ∀ {P : Program} {e : TypeId}, pur P (binOp .add e (Value.string ⟨y7.toArray⟩) (Value.string ⟨#[10]⟩)) = some (.ok (Value.string ⟨y8.toArray⟩)) := by
        rw [hy8]
        exact pur_sadd (b := [10]) (by simp only [List.length_cons, List.length_nil]; omega)
      have hy : lnS x ++ [10] = y8 := by rw [hy8, hy7, hy6, hy5, hy4, hy3, hy2, hy1, hdg]; rfl
      simp only [core, zrA, zrS, zrM, zrL, zrE, reduceCtorEq, zrD, ziE, ziL, ziN, hn, g1, g3, g22, g23, g24, hlt, hc3, l1, l2, l3, hld, hld0, ← hhA]
      rw [WB_regionD [0, 1, 2, 3, 4, 5, 6, 7, 8, 9, 13, 14, 10, 11, 12, 15, 16, 17, 18] 2348535863524654754272005291075055676979623044049263100909661185005242793840525142990011008197594470068781056 (by kernel_rfl)]
      repeat (first | ((with_reducible refine WDM_cons ?_; simp only [dw1]; try simp only [dw2, zrA, zrM, zrR, zrO, zrE]); simp only [core, zrA, zrS, zrM, zrL, zrE, reduceCtorEq, zrD, ziE, ziL, ziN, cored, a_bin_st, hn, g1, g3, g22, g23, g24, LXA, lXA, s1, s2, s3, s4, ofPV_str]) | simp only [core, zrA, zrS, zrM, zrL, zrE, reduceCtorEq, zrD, ziE, ziL, ziN, cored, a_bin_st, hn, g1, g3, g22, g23, g24, LXA, lXA, s1, s2, s3, s4, ofPV_str])
      refine itoa_c (n := x.size) TA (by omega) (by omega) ?_
      rw [← hdg]
      repeat (first | ((with_reducible refine WDM_cons ?_; simp only [dw1]; try simp only [dw2, zrA, zrM, zrR, zrO, zrE]); simp only [core, zrA, zrS, zrM, zrL, zrE, reduceCtorEq, zrD, ziE, ziL, ziN, cored, a_bin_st, hn, g1, g3, g22, g23, g24, LXA, lXA, s1, s2, s3, s4, s5, s6, ofPV_str]) | simp only [core, zrA, zrS, zrM, zrL, zrE, reduceCtorEq, zrD, ziE, ziL, ziN, cored, a_bin_st, hn, g1, g3, g22, g23, g24, LXA, lXA, s1, s2, s3, s4, s5, s6, ofPV_str])
      refine hexed0_c (u8L_noughts k3) ?_
      repeat (first | ((with_reducible refine WDM_cons ?_; simp only [dw1]; try simp only [dw2, zrA, zrM, zrR, zrO, zrE]); simp only [core, zrA, zrS, zrM, zrL, zrE, reduceCtorEq, zrD, ziE, ziL, ziN, cored, hn, g1, g3, g22, g23, g24, LXA, lXA, s7, s8, ofPV_str]) | simp only [core, zrA, zrS, zrM, zrL, zrE, reduceCtorEq, zrD, ziE, ziL, ziN, cored, hn, g1, g3, g22, g23, g24, LXA, lXA, s7, s8, ofPV_str])
      refine (WriteString_x (s := y8) BA (Nat.lt_succ_self _) (by omega) (by rw [hy8]; simp) (by omega)).mono ?_
      rintro w1 h3 ⟨B3, E3⟩
      rw [← hy] at B3
      repeat (first | ((with_reducible refine WDM_cons ?_; simp only [dw1]; try simp only [dw2, zrA, zrM, zrR, zrO, zrE]); simp only [core, zrA, zrS, zrM, zrL, zrE, reduceCtorEq, zrD, ziE, ziL, ziN, cored, hn, g1, g3, g22, g23, g24, hwi]) | simp only [core, zrA, zrS, zrM, zrL, zrE, reduceCtorEq, zrD, ziE, ziL, ziN, cored, hn, g1, g3, g22, g23, g24, hwi])
      refine ih _ _ ⟨EA.trans E3, ?_, ?_⟩
      · rw [htk, List.map_append, ← List.append_assoc, ← List.cons_append, List.map_singleton, catL_snoc]
        exact B3
      · simp only [core, zrA, zrS, zrM, zrL, zrE, reduceCtorEq, zrD, ziE, ziL, ziN, hn, g1, g3, g22, g23, g24]
    · rintro t h hc3 ⟨E, B, hn, g1, g3, g22, g23, g24⟩
      rw [hM, List.take_length] at B
      obtain ⟨EH, R, T1⟩ := fin h E
      have hll := lenS m
      rw [hM, List.take_length] at hll
      rcases B with ⟨h1, -⟩ | ⟨h1, p, h2, h3, h4⟩
      · exact absurd h1 (by unfold catL; simp)
      obtain ⟨bs, hbs⟩ : ∃ bs, bs = printF r := ⟨_, rfl⟩
      have hpr : catL ([114, 111, 111, 116] :: (r.ops.map lnO ++ r.live.map lnS)) = bs := hbs.symm
      rw [hpr] at h1 h3 h4 hll
      rw [← hbs]
      have lh4 := at_lt h4
      obtain ⟨h5, hh5⟩ : ∃ h5, h5 = h.put p (.frz (bL bs) 5) := ⟨_, rfl⟩
      have E5 : Ext H.n H h5 := hh5 ▸ EH.put _ (by omega)
      have n5 : h5.n = h.n := by rw [hh5, n_put]
      simp only [core, zrA, zrS, zrM, zrL, zrE, reduceCtorEq, zrD, ziE, ziL, ziN, hn, g1, g3, g22, g23, g24, hc3]
      refine WC_sum Tryz.func33 rfl (g := sBString) (v := .lit (.string ⟨bs.toArray⟩)) (h' := h5) rfl ?_ ?_
      · have hcut : (cut (bL bs) 0 bs.length).bind bytesA = some bs := by
          have : cut (bL bs) 0 bs.length = some (bL bs) := by
            unfold cut
            rw [if_pos (by rw [bL_len]; omega), List.drop_zero, ← bL_len, List.take_length]
          rw [this]
          exact bytesA_bL bs
        have h0 : Nat.blt 0 bs.length = true := Nat.blt_eq.mpr (by cases bs with | nil => exact absurd rfl h1 | cons => simp)
        simp only [sBString, h4, h3, hcut, Nat.beq_refl, h0, Bool.and_self, cond_true, hh5]
      · have hsz : Nat.ble bs.length 16777216 = true := Nat.ble_eq_true_of_le (by omega)
        obtain ⟨h6, hh6⟩ : ∃ h6, h6 = h5.push (.frz (bL bs) 5) := ⟨_, rfl⟩
        have E6 : Ext H.n H h6 := hh6 ▸ E5.push _ E5.1
        have A6 : h6.at h5.n = some (.frz (bL bs) 5) := hh6 ▸ at_push_n _ _
        have hcv : ∀ {d : Option Tmp} {ty : TypeId} {ps : String} {af : Array Edge} {g : Option (Nat × Bool)} {t : TM} {i : Nat}, t.get i = .lit (.string ⟨bs.toArray⟩) → aConR Tryz.prog (tabOf Tryz.prog NT0) ⟨d, .convert 9 42 (.tmp i), ty, ps, af, g⟩ t h5 9 42 (.tmp i) = some (.val (.sl h5.n 0 bs.length (.un 1)), h6) := fun hg => by rw [a_conS hg hsz, hh6]
        simp only [core, zrA, zrS, zrM, zrL, zrE, reduceCtorEq, zrD, ziE, ziL, ziN, hn, g1, g3, g22, g23, g24, hcv]
        exact ⟨E6, h5.n, E5.1, rfl, A6⟩
    · refine ⟨E, by simpa using B, ?_⟩
      simp only [core, zrA, zrS, zrM, zrL, zrE, reduceCtorEq, zrD, ziE, ziL, ziN, hn, g1, g3, g10, g11, g12]
      try ((repeat' apply And.intro) <;> first | rfl | trivial)
  · refine ⟨E2, B2', ?_⟩
    simp only [core, zrA, zrS, zrM, zrL, zrE, reduceCtorEq, zrD, ziE, ziL, ziN]
    try ((repeat' apply And.intro) <;> first | rfl | trivial)
end Go.Proofs.YtjicijhakcmifaaGreatDoor.Ex
end

section

set_option linter.unusedSimpArgs false
set_option linter.unusedVariables false
set_option maxRecDepth 10000
set_option maxHeartbeats 4000000
namespace Go.Proofs.YtjicijhakcmifaaGreatDoor.Ex
open Go
/-- A round of a range over a function. -/
def WR (P : Program) (T : TT) (S : Sums) (l : Nat) (args : List AV) (h : AH) (Q : AV → AH → Prop) : Prop := W P T S (.round l args) h fun x h2 => ∃ v cm, x = .ended (.ret v) cm ∧ Q v h2
theorem WR.mono {P : Program} {T : TT} {S : Sums} {l : Nat} {args : List AV} {h : AH} {Q Q' : AV → AH → Prop} (hw : WR P T S l args h Q) (hq : ∀ v h', Q v h' → Q' v h') : WR P T S l args h Q' := W.mono hw fun o h' ⟨v, cm, e, hv⟩ => ⟨v, cm, e, hq v h' hv⟩
theorem call_yield {P : Program} {l : Nat} {args : List AV} : callA P (.fn (.yield l) [] []) args = some (.round l args) := rfl
section
variable {P : Program} {T : TT} {S : Sums} {E : FE} {t : TM} {k : List AI} {h : AH} {K : KK}
/-- A range over a function; its loop has a name. -/
theorem WB_rangeW {f : Operand} {ps : Array Tmp} {a b : Code} {fv : AV} {g : FuncId} {args : List AV} (hro : E.ro = none) (hf : evalA t f = some fv) (hc : callA P fv [.fn (.yield (h.n + 1)) [] []] = some (.enter g args))
    (hw : ∀ LO : ALoop, LO = ⟨.ready, none, E.fn, t, ps.toList, a, b⟩ → WC P T S g args ((h.push .defd).push (.loop LO)) fun _ h2 =>
      ∃ lo, h2.at (h.n + 1) = some (.loop lo) ∧ lo.state ≠ .busy ∧ WB P T S { E with defers := .coll h.n :: E.defers } t ((lo.pending.map AI.code).toList ++ k) (h2.put (h.n + 1) (.loop { lo with state := .exhausted })) fun j t' h' => h'.at h.n = some .defd ∧ K j t' (h'.put h.n .gone)) :
    WB P T S E t (.code (.rangeFunc f ps a b) :: k) h K := WB_rangeFunc hro hf hc (hw _ rfl)
theorem WR_round {l : Nat} {LO : ALoop} {fn : FuncId} {ps : List Tmp} {a b : Code} {args : List AV} {Q : AV → AH → Prop} (e : LO = ⟨.ready, none, fn, t, ps, a, b⟩) (hl : h.at l = some (.loop LO)) (hn : args.length = ps.length)
    (hw : WB P T S { fn := fn, ro := some l } (setParams t ps args) [.code a, .beginRound, .code b] h fun j _ h' =>
      ∃ lo', h'.at l = some (.loop lo') ∧ Q (.lit (.bool j.isNone)) (h'.put l (.loop { lo' with state := if j.isNone then .ready else .done, pending := j }))) : WR P T S l args h Q := by
  subst e
  exact W_round hl hn hw
theorem sp_cons {i : Nat} {ts : List Tmp} {v : AV} {vs : List AV} : setParams t (i :: ts) (v :: vs) = setParams (t.set i v) ts vs := rfl
theorem sp_nil : setParams t [] [] = t := rfl
def busyL (LO : ALoop) : ALoop := { LO with state := .busy }
theorem WB_beginL {l : Nat} {LO : ALoop} {fn : FuncId} {t0 : TM} {ps : List Tmp} {a b : Code} (e : LO = ⟨.ready, none, fn, t0, ps, a, b⟩) (hro : E.ro = some l) (hl : h.at l = some (.loop LO)) (hw : WB P T S E t k (h.put l (.loop (busyL LO))) K) : WB P T S E t (.beginRound :: k) h K := by
  subst e
  exact WB_begin hro hl rfl hw
theorem busy_back {LO : ALoop} {fn : FuncId} {t0 : TM} {ps : List Tmp} {a b : Code} (e : LO = ⟨.ready, none, fn, t0, ps, a, b⟩) : ({ busyL LO with state := .ready, pending := none } : ALoop) = LO := by subst e; rfl
end
end Go.Proofs.YtjicijhakcmifaaGreatDoor.Ex
end

section

set_option linter.unusedSimpArgs false
set_option linter.unusedVariables false
set_option maxRecDepth 10000
set_option maxHeartbeats 4000000
namespace Go.Proofs.YtjicijhakcmifaaGreatDoor.Ex
open Go
theorem natural_v {H : AH} {l : List UInt8} {n : Nat} (hv : natF l = some n) : WC Tryz.prog (tabOf Tryz.prog NT0) S0 36 [.lit (.string ⟨l.toArray⟩)] H fun r h' => h' = H ∧ r = .tup [.lit (.int .i64 n), .lit (.bool true)] := by
  have hok : ¬ (l = [] ∨ 10 < l.length ∨ (1 < l.length ∧ l[0]? = some 48)) := fun h => by rw [natF_bad h] at hv; cases hv
  have hB : natB l = true := by unfold natB; rw [hv]; rfl
  have hne : l ≠ [] := fun h => hok (.inl h)
  have h10 : l.length ≤ 10 := by have : ¬ 10 < l.length := fun h => hok (.inr (.inl h)); omega
  refine WC_fn Tryz.func36 rfl rfl ?_
  have q1 : ∀ (P : Program) (e : TypeId), pur P (binOp .eql e (Value.string ⟨l.toArray⟩) (Value.string ⟨#[]⟩)) = some (.ok (.bool (l == []))) := fun P e => pur_seq (b := [])
  have e0 : (l == []) = false := by cases l with | nil => exact absurd rfl hne | cons => rfl
  have e1 : decide ((10 : Int) < (l.length : Int)) = false := decide_eq_false (by omega)
  obtain ⟨b, hi⟩ : ∃ b, l[0]? = some b := by cases l with | nil => exact absurd rfl hne | cons b r => exact ⟨b, rfl⟩
  have hle : ((0 : Int) ≤ 0) := by omega
  have q2 : ∀ (t : List UInt8) (P : Program) (e : TypeId), pur P (binOp .neq e (Value.string ⟨t.toArray⟩) (Value.string ⟨#[]⟩)) = some (.ok (.bool (!(t == [])))) := fun t P e => pur_sne (b := [])
  obtain ⟨T, hT⟩ : ∃ T, T = Lib.trimS l digs := ⟨_, rfl⟩
  have key : (decide ((1 : Int) < (l.length : Int)) = true ∧ ((b.toNat : Int) == 48) = true) ∨ ((decide ((1 : Int) < (l.length : Int)) = false) ∨ (decide ((1 : Int) < (l.length : Int)) = true ∧ ((b.toNat : Int) == 48) = false)) := by
    cases decide ((1 : Int) < (l.length : Int)) <;> cases ((b.toNat : Int) == 48) <;> simp
  rcases key with ⟨e2, e3⟩ | key
  · have hb48 : b = 48 := UInt8.toNat_inj.1 (by have := eq_of_beq e3; show b.toNat = 48; omega)
    exact absurd (Or.inr (Or.inr ⟨by have := of_decide_eq_true e2; omega, by rw [hi, hb48]⟩)) hok
  rcases key with e2 | ⟨e2, e3⟩
  all_goals
    try simp only [core, zrA, zrS, zrM, zrL, zrE, reduceCtorEq, zrD, ziE, ziL, ziN, Tryz.ntmps36, a_slen, a_six, six_int, isStrV_lit, strV_lit, q1, e0, e1, e2, aundef, hi, hle]
    try simp only [core, zrA, zrS, zrM, zrL, zrE, reduceCtorEq, zrD, ziE, ziL, ziN, Tryz.ntmps36, a_slen, a_six, six_int, isStrV_lit, strV_lit, q1, e0, e1, e2, e3, aundef, hi, hle]
    refine trim_c (cs := digs) (by omega) (by decide) (by decide) ?_
    rw [← hT]
    have et : (T == ([] : List UInt8)) = true := by rw [hT, trim_nil.2 (natB_digits hB)]; rfl
    obtain ⟨n', hd⟩ := digits_dec 0 l (natB_digits hB)
    have hnb := natF_ok hok hd
    rw [hnb] at hv
    have hle' : n' ≤ 2147483647 := by
      by_cases h : n' ≤ 2147483647
      · exact h
      · rw [if_neg h] at hv; cases hv
    rw [if_pos hle'] at hv
    cases hv
    have hd2 : decide ((n : Int) ≤ 2147483647) = true := decide_eq_true (by omega)
    simp only [core, zrA, zrS, zrM, zrL, zrE, reduceCtorEq, zrD, ziE, ziL, ziN, q2, et]
    refine atoi_c (by omega) (atoi_dec' hne hd) ?_
    simp only [core, zrA, zrS, zrM, zrL, zrE, reduceCtorEq, zrD, ziE, ziL, ziN, a_nilI, hd2]
theorem cut_uniq {c : UInt8} : ∀ {p q p' q' : List UInt8}, c ∉ p → c ∉ p' → p ++ c :: q = p' ++ c :: q' → p = p' ∧ q = q'
  | [], q, [], q', _, _, h => by
    simp only [List.nil_append, List.cons.injEq, true_and] at h
    exact ⟨rfl, h⟩
  | [], q, x :: p', q', _, h2, h => by
    simp only [List.nil_append, List.cons_append, List.cons.injEq] at h
    exact absurd (by rw [h.1]; simp) h2
  | x :: p, q, [], q', h1, _, h => by
    simp only [List.nil_append, List.cons_append, List.cons.injEq] at h
    exact absurd (by rw [h.1]; simp) h1
  | x :: p, q, y :: p', q', h1, h2, h => by
    simp only [List.cons_append, List.cons.injEq] at h
    obtain ⟨e1, e2⟩ := cut_uniq (fun hh => h1 (List.mem_cons_of_mem _ hh)) (fun hh => h2 (List.mem_cons_of_mem _ hh)) h.2
    rw [h.1, e1, e2]
    exact ⟨rfl, rfl⟩
theorem cut_ln {H : AH} {l p q : List UInt8} {c : UInt8} (hN : l.length ≤ 4611686018427387000) (he : l = p ++ c :: q) (hp : c ∉ p) : WC Tryz.prog (tabOf Tryz.prog NT0) S0 55 [.lit (.string ⟨l.toArray⟩), .lit (.string ⟨#[c]⟩)] H fun r h' => h' = H ∧
    r = .tup [.lit (.string ⟨p.toArray⟩), .lit (.string ⟨q.toArray⟩), .lit (.bool true)] := by
  refine (cut_x hN).mono ?_
  rintro r h' ⟨e, ⟨h1, -⟩ | ⟨p', q', h1, h2, rfl⟩⟩
  · exact absurd (by rw [he]; simp) h1
  · obtain ⟨rfl, rfl⟩ := cut_uniq h2 hp (h1.symm.trans he)
    exact ⟨e, rfl⟩
theorem bytesAt_frz {h : AH} {b : Nat} {bs : List UInt8} {e : TypeId} (hb : h.at b = some (.frz (bL bs) e)) : bytesAt h b 0 bs.length = some bs := by
  unfold bytesAt getR
  rw [hb]
  have : cut (bL bs) 0 bs.length = some (bL bs) := by
    unfold cut
    rw [if_pos (by rw [bL_len]; omega), List.drop_zero, ← bL_len, List.take_length]
  show (match cut (bL bs) 0 bs.length with | some cs => bytesA cs | none => none) = _
  rw [this]
  exact bytesA_bL bs
theorem lines_x {H : AH} {b o n : Nat} {c : Cap} : WC Tryz.prog (tabOf Tryz.prog NT0) S0 34 [.sl b o n c] H fun r h' => h' = H.push (.cells [.sl b o n c] 42) ∧ r = .fn (.func 54) [] [.ptr H.n 0] := by
  refine WC_fn Tryz.func34 rfl rfl ?_
  have s1 : isSl (.sl b o n c) = true := rfl
  have s2 : (AV.sl b o n c).cells = [.sl b o n c] := rfl
  have s3 : AV.one (.sl b o n c) = true := rfl
  simp only [core, zrA, zrS, zrM, zrL, zrE, reduceCtorEq, zrD, ziE, ziL, ziN, Tryz.ntmps34, s1, s2, s3, List.all_cons, List.all_nil]
  try exact ⟨by simp, rfl, rfl⟩
theorem lines1_x {q b lp : Nat} {bs : List UInt8} {ls : List (List UInt8)} {e : TypeId} {h : AH} (hp : h.at q = some (.cells [.sl b 0 bs.length (.un 1)] 42)) (hb : h.at b = some (.frz (bL bs) e)) (hbs : bs = catL ls) (hno : ∀ l ∈ ls, (10 : UInt8) ∉ l) (hlen : bs.length ≤ 1000000)
    (J : Nat → AH → Prop)
    (hr : ∀ i x h, ls[i]? = some x → J i h → WR Tryz.prog (tabOf Tryz.prog NT0) S0 lp [.lit (.string ⟨x.toArray⟩), .lit (.bool true)] h fun r h2 => r = .lit (.bool true) ∧ J (i + 1) h2)
    (h0 : J 0 h) : WC Tryz.prog (tabOf Tryz.prog NT0) S0 54 [.fn (.yield lp) [] [], .ptr q 0] h fun _ h2 => J ls.length h2 := by
  refine WC_fn Tryz.func54 rfl rfl ?_
  have LP0 := ld_at (T := tabOf Tryz.prog NT0) hp
  have lp0 := at_lt hp
  have hby : bytesAt h b 0 bs.length = some bs := bytesAt_frz hb
  have cl : ∀ i, (catL (ls.drop i)).length ≤ bs.length := fun i => by
    rw [hbs, ← List.take_append_drop i ls]
    unfold catL
    rw [List.flatMap_append, List.length_append, List.take_append_drop]
    omega
  have hq : ∀ (t : List UInt8) {P : Program} {e : TypeId}, pur P (binOp .neq e (Value.string ⟨t.toArray⟩) (Value.string ⟨#[]⟩)) = some (.ok (.bool (!(t == [])))) := fun t P e => pur_sne (b := [])
  have sl1 : isSl (.sl b 0 bs.length (.un 1)) = true := rfl
  simp only [core, zrA, zrS, zrM, zrL, zrE, reduceCtorEq, zrD, ziE, ziL, ziN, Tryz.ntmps54, LP0, lp0, a_conM, conM_sl, hby, sl1]
  refine WB_for ls.length (fun i t h => J i h ∧ t.n = 23 ∧ t.get 0 = .fn (.yield lp) [] [] ∧ t.get 3 = .lit (.string ⟨(catL (ls.drop i)).toArray⟩)) ?_ ?_ _ _ ?_
  · rintro i t h hlt hc ⟨hj, hn, g0, g3⟩ ih
    obtain ⟨x, hx⟩ : ∃ x, ls[i]? = some x := ⟨_, List.getElem?_eq_getElem hlt⟩
    have hd : ls.drop i = x :: ls.drop (i + 1) := by
      obtain ⟨a, b⟩ := List.getElem?_eq_some_iff.1 hx
      rw [List.drop_eq_getElem_cons a, b]
    obtain ⟨s, hs⟩ : ∃ s, s = catL (ls.drop i) := ⟨_, rfl⟩
    obtain ⟨s', hs'⟩ : ∃ s', s' = catL (ls.drop (i + 1)) := ⟨_, rfl⟩
    have hss : s = x ++ 10 :: s' := by
      rw [hs, hd, hs']
      show (x ++ [10]) ++ _ = _
      rw [List.append_assoc]
      rfl
    have hsl : s.length ≤ bs.length := by rw [hs]; exact cl i
    have hsn : (s == []) = false := by rw [hss]; cases x <;> rfl
    simp only [core, zrA, zrS, zrM, zrL, zrE, reduceCtorEq, zrD, ziE, ziL, ziN, hn, g0, g3, ← hs, hq, hsn, ofPV_str]
    refine (cut_ln (by omega) hss (hno x (List.mem_of_getElem? hx))).mono ?_
    rintro _ _ ⟨q5, rfl⟩
    replace q5 := q5.symm
    subst q5
    simp only [core, zrA, zrS, zrM, zrL, zrE, reduceCtorEq, zrD, ziE, ziL, ziN, hn, g0, g3, call_yield]
    refine (hr i x _ hx hj).mono ?_
    rintro _ h2 ⟨rfl, hj2⟩
    simp only [core, zrA, zrS, zrM, zrL, zrE, reduceCtorEq, zrD, ziE, ziL, ziN, hn, g0, g3]
    refine ih _ _ ⟨hj2, ?_⟩
    simp only [core, zrA, zrS, zrM, zrL, zrE, reduceCtorEq, zrD, ziE, ziL, ziN, hn, g0, g3, ← hs']
  · rintro t h hc ⟨hj, hn, g0, g3⟩
    have hcn : catL (ls.drop ls.length) = [] := by rw [List.drop_length]; rfl
    have hq0 : ∀ {P : Program} {e : TypeId}, pur P (binOp .neq e (Value.string ⟨#[]⟩) (Value.string ⟨#[]⟩)) = some (.ok (.bool false)) := hq []
    simp only [core, zrA, zrS, zrM, zrL, zrE, reduceCtorEq, zrD, ziE, ziL, ziN, hn, g0, g3, hcn, hq0, ofPV_str]
    first | exact ⟨by simp, hj⟩ | exact hj
  · simp only [core, zrA, zrS, zrM, zrL, zrE, reduceCtorEq, zrD, ziE, ziL, ziN, List.drop_zero, ← hbs]
    exact h0
end Go.Proofs.YtjicijhakcmifaaGreatDoor.Ex
end

section

set_option linter.unusedSimpArgs false
set_option linter.unusedVariables false
set_option maxRecDepth 10000
set_option maxHeartbeats 4000000
namespace Go.Proofs.YtjicijhakcmifaaGreatDoor.Ex
open Go
end Go.Proofs.YtjicijhakcmifaaGreatDoor.Ex
end

section

set_option linter.unusedSimpArgs false
set_option linter.unusedVariables false
set_option maxRecDepth 10000
set_option maxHeartbeats 4000000
namespace Go.Proofs.YtjicijhakcmifaaGreatDoor.Ex
open Go
section
variable {d : Option Tmp} {ty : TypeId} {ps : String} {af : Array Edge} {g : Option (Nat × Bool)} {t : TM} {h : AH}
/-- One of three numbers. -/
def ix3M (h : AH) (r : AR) : AV → AV → AR
  | .agg [.lit (.int .i64 a), .lit (.int .i64 b), .lit (.int .i64 c)], .lit (.int _ n) => if n = 0 then some (.val (.lit (.int .i64 a)), h) else if n = 1 then some (.val (.lit (.int .i64 b)), h) else if n = 2 then some (.val (.lit (.int .i64 c)), h) else r
  | _, _ => r
theorem a_idx3 {i j : Nat} : aop Tryz.prog (tabOf Tryz.prog NT0) ⟨d, .index 55 (.tmp i) (.tmp j), ty, ps, af, g⟩ t h = ix3M h (aIdxR Tryz.prog (tabOf Tryz.prog NT0) ⟨d, .index 55 (.tmp i) (.tmp j), ty, ps, af, g⟩ t h 55 (.tmp i) (.tmp j)) (t.get i) (t.get j) := by
  unfold ix3M
  split
  · rename_i a b c k n h1 h2
    have e1 : litEnv t (.tmp i) = .agg #[.int .i64 a, .int .i64 b, .int .i64 c] := by simp [litEnv, ev_tmp, h1, toVal, toScals, scal]
    have e2 : litEnv t (.tmp j) = .int k n := by simp [litEnv, ev_tmp, h2, toVal]
    have key : ∀ s, pur Tryz.prog (Instr.index 55 (.agg #[.int .i64 a, .int .i64 b, .int .i64 c]) (.int k n)) = some (.ok (.int .i64 s)) → aIndex Tryz.prog (tabOf Tryz.prog NT0) ⟨d, .index 55 (.tmp i) (.tmp j), ty, ps, af, g⟩ t h 55 (.tmp i) (.tmp j) = some (.val (.lit (.int .i64 s)), h) := fun s he => by
      have hk : ∀ (f : Value → Sem Next), pur Tryz.prog (Instr.index 55 (.agg #[.int .i64 a, .int .i64 b, .int .i64 c]) (.int k n) >>= f) = pur Tryz.prog (f (.int .i64 s)) := fun f => by
        generalize Instr.index 55 (.agg #[.int .i64 a, .int .i64 b, .int .i64 c]) (.int k n) = q at he
        induction q with
        | pure x => simp [pur] at he; subst he; rfl
        | halt r => cases r <;> simp [pur] at he
        | program k ih => exact ih _ he
        | mark e k ih => exact ih he
        | _ => simp [pur] at he
      have h0 : litOp Tryz.prog ⟨d, .index 55 (.tmp i) (.tmp j), ty, ps, af, g⟩ t = some (.val (.lit (.int .i64 s))) := by
        unfold litOp
        rw [if_pos (by simp [notSelect, Op.operands, litAll, ev_tmp, h1, h2, toVal, toScals, scal])]
        simp only [execOp, e1, e2, hk]
        rfl
      unfold aIndex orLit
      rw [h0]
    show aIndex _ _ _ _ _ _ _ _ = _
    split
    · rename_i h0; subst h0; exact key a (by kernel_rfl)
    · split
      · rename_i h0; subst h0; exact key b (by kernel_rfl)
      · split
        · rename_i h0; subst h0; exact key c (by kernel_rfl)
        · rfl
  · rfl
end
def okI (x : Int) : Bool := decide (0 ≤ x) && decide (x ≤ 2147483647)
def idF (a b c : Int) : List UInt8 := if okI a = true ∧ okI b = true ∧ okI c = true then idB a.toNat b.toNat c.toNat else []
theorem okI_nat {x : Int} (h : okI x = true) : ∃ n : Nat, x = n ∧ n ≤ 2147483647 := by
  unfold okI at h
  simp only [Bool.and_eq_true, decide_eq_true_eq] at h
  exact ⟨x.toNat, by omega, by omega⟩
theorem join3 (a b c : List UInt8) : Lib.join [a, b, c] [46] = a ++ 46 :: (b ++ 46 :: c) := by
  unfold Lib.join
  simp [List.intercalate, List.intersperse]
theorem ownT_row {n0 : Nat} {h : AH} {v : AV} {xs : List (List UInt8)} (ho : OwnT n0 h v xs) (hne : xs ≠ []) : ∃ p, v = .sl p 0 xs.length (.un 1) ∧ n0 ≤ p ∧ h.at p = some (.cells (xs.map txV) 9) := by
  obtain ⟨L, h1, h2⟩ := ho
  have hL : L.flatten = xs.map txV := by
    obtain ⟨e1, e2⟩ := h2
    have key : ∀ (L : List (List AV)) (xs : List (List UInt8)), L.length = xs.length → (∀ (i : Nat) c x, L[i]? = some c → xs[i]? = some x → RTx.is (fun b => False ∧ Apart v b) h c x) → L.flatten = xs.map txV := by
      intro L
      induction L with
      | nil => intro xs hl _; cases xs with | nil => rfl | cons => cases hl
      | cons a r ih =>
        intro xs hl hh
        cases xs with
        | nil => cases hl
        | cons x xs =>
          have i1 := ih xs (by simpa using hl) (fun i c y a b => hh (i + 1) c y (by simpa using a) (by simpa using b))
          obtain rfl := RTx_is.1 (hh 0 a x rfl rfl)
          rw [List.flatten_cons, i1]
          rfl
    exact key L xs e1 e2
  have e0 := h2.1
  rcases h1.2 with ⟨rfl, rfl⟩ | ⟨p, rfl, hp, hat⟩
  · exact absurd (List.eq_nil_of_length_eq_zero (by rw [← e0]; rfl)) hne
  · exact ⟨p, by rw [e0]; rfl, hp, by rw [hat, hL]⟩
theorem strs_tx : ∀ xs : List (List UInt8), strsL (xs.map txV) = some (xs.map fun l => ⟨l.toArray⟩)
  | [] => rfl
  | x :: r => by
    show (strsL (r.map txV)).map _ = _
    rw [strs_tx r]
    rfl
theorem join_c {H : AH} {Q : AV → AH → Prop} {p n : Nat} {cap : Cap} {xs : List (List UInt8)} {sep : List UInt8} {e : TypeId} (hat : H.at p = some (.cells (xs.map txV) e)) (hn : n = xs.length) (hx : xs.length ≤ 140737488355328) (hlen : (Lib.join xs sep).length ≤ 140737488355328) (hq : Q (.lit (.string ⟨(Lib.join xs sep).toArray⟩)) H) :
    WC Tryz.prog (tabOf Tryz.prog NT0) S0 17 [.sl p 0 n cap, .lit (.string ⟨sep.toArray⟩)] H Q := by
  refine WC_sum Tryz.func17 rfl (g := sJoin) rfl ?_ hq
  subst hn
  have hg : getB H p = some (xs.map txV, e) := by unfold getB; rw [hat]
  have ht : ((xs.map txV).drop 0).take xs.length = xs.map txV := by rw [List.drop_zero, List.take_of_length_le (by simp)]
  have hb : (xs.map fun l => (⟨l.toArray⟩ : ByteArray)).map (·.data.toList) = xs := by rw [List.map_map]; show xs.map (fun l => l) = xs; exact List.map_id' xs
  show (match getB H p with | some (l, _) => _ | none => _) = _
  rw [hg]
  show (match strsL (((xs.map txV).drop 0).take xs.length) with | some ys => _ | none => _) = _
  rw [ht, strs_tx]
  show (bif Nat.beq xs.length (xs.map fun l => (⟨l.toArray⟩ : ByteArray)).length && (decide ((xs.map fun l => (⟨l.toArray⟩ : ByteArray)).length ≤ 140737488355328) && decide ((Lib.join ((xs.map fun l => (⟨l.toArray⟩ : ByteArray)).map (·.data.toList)) sep).length ≤ 140737488355328)) then some (AV.lit (.string ⟨(Lib.join ((xs.map fun l => (⟨l.toArray⟩ : ByteArray)).map (·.data.toList)) sep).toArray⟩), H) else none) = _
  rw [hb, List.length_map, Nat.beq_refl, decide_eq_true hx, decide_eq_true hlen]
  rfl
theorem id_x {H : AH} {a b c : Int} {e : TypeId} (hT : H.at 1 = some (.frz tabL e)) : WC Tryz.prog (tabOf Tryz.prog NT0) S0 4 [.lit (.int .i64 a), .lit (.int .i64 b), .lit (.int .i64 c)] H fun r h' => Ext H.n H h' ∧ r = .lit (.string ⟨(idF a b c).toArray⟩) := by
  refine WC_fn Tryz.func4 rfl rfl ?_
  have lT := at_lt hT
  simp only [core, zrA, zrS, zrM, zrL, zrE, reduceCtorEq, zrD, ziE, ziL, ziN, Tryz.ntmps4]
  refine WB_for 3 (fun i t h => Ext H.n H h ∧ ∃ v, (∀ j x, j < i → [a, b, c][j]? = some x → okI x = true) ∧ OwnT H.n h v (([a, b, c].take i).map fun x => Lib.decDigits x.toNat) ∧ t.n = 31 ∧ t.get 7 = v ∧ t.get 13 = .agg [.lit (.int .i64 a), .lit (.int .i64 b), .lit (.int .i64 c)] ∧ t.get 14 = .lit (.int .i64 (i : Nat))) ?_ ?_ _ _ ?_
  · rintro i t h hlt hc ⟨E, v, hok, ho, hn, g7, g13, g14⟩ ih
    have u1 := ho.one
    have T1 : h.at 1 = some (.frz tabL e) := (E.2 _ lT).trans hT
    have hcase : ∃ x, [a, b, c][i]? = some x ∧ ∀ q h, ix3M h q (.agg [.lit (.int .i64 a), .lit (.int .i64 b), .lit (.int .i64 c)]) (.lit (.int .i64 (i : Nat))) = some (.val (.lit (.int .i64 x)), h) := by
      have : i = 0 ∨ i = 1 ∨ i = 2 := by omega
      rcases this with rfl | rfl | rfl
      · exact ⟨a, rfl, fun _ _ => rfl⟩
      · exact ⟨b, rfl, fun _ _ => rfl⟩
      · exact ⟨c, rfl, fun _ _ => rfl⟩
    obtain ⟨x, hx, hix⟩ := hcase
    have hwi := wrap_succ (n := 3) hlt (by omega)
    have hc3 : ((i : Int) < 3) = True := by simp; omega
    have hbad : okI x = false → idF a b c = [] := fun hb => by
      unfold idF
      rw [if_neg]
      rintro ⟨h1, h2, h3⟩
      have : i = 0 ∨ i = 1 ∨ i = 2 := by omega
      rcases this with rfl | rfl | rfl
      · cases hx; rw [h1] at hb; cases hb
      · cases hx; rw [h2] at hb; cases hb
      · cases hx; rw [h3] at hb; cases hb
    cases f1 : decide (x < 0) with
    | true =>
      have hb := hbad (by unfold okI; have := of_decide_eq_true f1; rw [decide_eq_false (by omega)]; rfl)
      simp only [core, zrA, zrS, zrM, zrL, zrE, reduceCtorEq, zrD, ziE, ziL, ziN, hn, g7, g13, g14, hlt, hc3, a_idx3, hix, f1, aundef, hb]
      first | exact E | exact ⟨E, rfl⟩
    | false =>
    cases f2 : decide (2147483647 < x) with
    | true =>
      have hb := hbad (by unfold okI; have := of_decide_eq_true f2; rw [decide_eq_false (p := x ≤ 2147483647) (by omega), Bool.and_false])
      simp only [core, zrA, zrS, zrM, zrL, zrE, reduceCtorEq, zrD, ziE, ziL, ziN, hn, g7, g13, g14, hlt, hc3, a_idx3, hix, f1, f2, aundef, hb]
      first | exact E | exact ⟨E, rfl⟩
    | false =>
      have k1 := of_decide_eq_false f1
      have k2 := of_decide_eq_false f2
      have hxo : okI x = true := by unfold okI; rw [decide_eq_true (by omega), decide_eq_true (by omega)]; rfl
      simp only [core, zrA, zrS, zrM, zrL, zrE, reduceCtorEq, zrD, ziE, ziL, ziN, hn, g7, g13, g14, hlt, hc3, a_idx3, hix, f1, f2, aundef]
      refine itoa_c T1 (by omega) (by omega) ?_
      obtain ⟨m, rfl, hm⟩ := okI_nat hxo
      rw [itoa_nat]
      have e5 : Ext h.n h (h.push (.cells [.lit (.string ⟨(Lib.decDigits m).toArray⟩)] 9)) := (Ext.refl _ _).push _ (Nat.le_refl _)
      simp only [core, zrA, zrS, zrM, zrL, zrE, reduceCtorEq, zrD, ziE, ziL, ziN, hn, g7, g13, g14, u1]
      refine WOp_app (push_tx (ho.ext e5 (Nat.le_refl _)) (by rw [n_push]; have := E.1; omega) (at_push_n h _) (by simp; omega)) ?_
      rintro s6 h6 ⟨o6, e6⟩
      have u6 := o6.one
      have E6 : Ext H.n H h6 := (E.trans (e5.mono E.1)).trans e6
      simp only [core, zrA, zrS, zrM, zrL, zrE, reduceCtorEq, zrD, ziE, ziL, ziN, hn, g7, g13, g14, u6, hwi]
      refine ih _ _ ⟨E6, s6, fun j y hj hy => ?_, ?_, ?_⟩
      · by_cases hji : j < i
        · exact hok j y hji hy
        · obtain rfl : j = i := by omega
          rw [hx] at hy
          cases hy
          exact hxo
      · obtain ⟨h1, h2⟩ := List.getElem?_eq_some_iff.1 hx
        rw [List.take_succ_eq_append_getElem h1, List.map_append, h2]
        exact o6
      · simp only [core, zrA, zrS, zrM, zrL, zrE, reduceCtorEq, zrD, ziE, ziL, ziN, hn, g7, g13, g14]
  · rintro t h hc ⟨E, v, hok, ho, hn, g7, g13, g14⟩
    have ha := hok 0 a (by omega) rfl
    have hb := hok 1 b (by omega) rfl
    have hcc := hok 2 c (by omega) rfl
    have hid : idF a b c = idB a.toNat b.toNat c.toNat := by unfold idF; rw [if_pos ⟨ha, hb, hcc⟩]
    have u1 := ho.one
    have hc3 : (((3 : Nat) : Int) < 3) = False := by simp
    obtain ⟨p, rfl, hp, hat⟩ := ownT_row ho (by simp)
    obtain ⟨x, rfl, hx⟩ := okI_nat ha
    obtain ⟨y, rfl, hy⟩ := okI_nat hb
    obtain ⟨z, rfl, hz⟩ := okI_nat hcc
    have lx := dig_len (n := x) (by omega)
    have ly := dig_len (n := y) (by omega)
    have lz := dig_len (n := z) (by omega)
    have hm3 : ([(x : Int), (y : Int), (z : Int)].take 3).map (fun x => Lib.decDigits x.toNat) = [Lib.decDigits x, Lib.decDigits y, Lib.decDigits z] := rfl
    rw [hm3] at hat u1
    have hj := join3 (Lib.decDigits x) (Lib.decDigits y) (Lib.decDigits z)
    simp only [core, zrA, zrS, zrM, zrL, zrE, reduceCtorEq, zrD, ziE, ziL, ziN, hn, g7, g13, g14, hc3, u1]
    refine join_c (sep := [46]) hat rfl (by simp) (by rw [hj]; simp; omega) ?_
    rw [hj]
    simp only [core, zrA, zrS, zrM, zrL, zrE, reduceCtorEq, zrD, ziE, ziL, ziN, hn, g7, g13, g14]
    rw [hid]
    first | exact E | exact ⟨E, rfl⟩
  · refine ⟨Ext.refl _ _, .lit (.slice none 0 0), fun j x hj => by omega, .nil, ?_⟩
    simp only [core, zrA, zrS, zrM, zrL, zrE, reduceCtorEq, zrD, ziE, ziL, ziN]
    try ((repeat' apply And.intro) <;> first | rfl | trivial)
end Go.Proofs.YtjicijhakcmifaaGreatDoor.Ex
end

section

set_option linter.unusedSimpArgs false
set_option linter.unusedVariables false
set_option maxRecDepth 10000
set_option maxHeartbeats 4000000
namespace Go.Proofs.YtjicijhakcmifaaGreatDoor.Ex
open Go
theorem pur_seq1 {P : Program} {e : TypeId} {a : List UInt8} : pur P (binOp .eql e (Value.string ⟨a.toArray⟩) (Value.string ⟨a.toArray⟩)) = some (.ok (Value.bool true)) := by
  rw [pur_seq, show (a == a) = true by simp]
theorem pur_sne1 {P : Program} {e : TypeId} {a : List UInt8} : pur P (binOp .neq e (Value.string ⟨a.toArray⟩) (Value.string ⟨a.toArray⟩)) = some (.ok (Value.bool false)) := by
  rw [pur_sne, show (a == a) = true by simp]
  rfl
end Go.Proofs.YtjicijhakcmifaaGreatDoor.Ex
end

section

set_option linter.unusedSimpArgs false
set_option linter.unusedVariables false
set_option maxRecDepth 10000
set_option maxHeartbeats 4000000
namespace Go.Proofs.YtjicijhakcmifaaGreatDoor.Ex
open Go
theorem snocM {n0 q : Nat} {h : AH} {v : AV} {xs : List SetD} {x : SetD} {cap : Cap} {e' : TypeId} (ho : OwnX setC 35 n0 h v 39 xs) (hn0 : n0 ≤ h.n) (A : h.at q = some (.cells (setC x) e')) (hl : xs.length ≤ 1000000000000) :
    ∃ s' h', appendA (tabOf Tryz.prog NT0) h 24 24 v (.sl q 0 1 cap) = some (s', h') ∧ OwnX setC 35 n0 h' s' 39 (xs ++ [x]) ∧ Ext n0 h h' := by
  obtain ⟨s', h', a, b, c⟩ := ho.snoc (T := tabOf Tryz.prog NT0) (t := 24) (y := x) (cap := cap) flatSet (by kernel_rfl) (by kernel_rfl) (zv := .agg (setC set0)) (by kernel_rfl) (by' := 72) (by kernel_rfl) rfl (by decide) A (by omega) (by omega) hn0
  exact ⟨s', h', a, b.toX, c⟩
/- What is asked of texts that are read back. -/
structure Tx (r : RootD) : Prop where
  o : ∀ x ∈ r.ops, (10 : UInt8) ∉ x ∧ (32 : UInt8) ∉ x
  l : ∀ s ∈ r.live, ((10 : UInt8) ∉ s.id ∧ (32 : UInt8) ∉ s.id) ∧ ((10 : UInt8) ∉ s.name ∧ (32 : UInt8) ∉ s.name)
theorem itoa_nf {n : Int} (h0 : 0 ≤ n) (h1 : n < 100) : natF (Lib.itoa n) = some n.toNat ∧ (10 : UInt8) ∉ Lib.itoa n ∧ (32 : UInt8) ∉ Lib.itoa n := by
  have : n ∈ (List.range 100).map (fun k : Nat => (k : Int)) := List.mem_map.2 ⟨n.toNat, List.mem_range.2 (by omega), by omega⟩
  have key : ∀ n ∈ (List.range 100).map (fun k : Nat => (k : Int)), natF (Lib.itoa n) = some n.toNat ∧ (10 : UInt8) ∉ Lib.itoa n ∧ (32 : UInt8) ∉ Lib.itoa n := by decide +kernel
  exact key n this
theorem split_o {x : List UInt8} (h : (32 : UInt8) ∉ x) : splitF 32 (lnO x) = [[111, 112, 101, 110], x] := by
  have := splitF_app 32 x [111, 112, 101, 110] (by decide)
  show splitF 32 ([111, 112, 101, 110] ++ 32 :: x) = _
  rw [this, splitF_one 32 x h]
theorem z64_no : (10 : UInt8) ∉ z64 ∧ (32 : UInt8) ∉ z64 := by decide +kernel
theorem lnS_eq (s : SetD) : lnS s = [108, 105, 118, 101] ++ 32 :: (s.name ++ 32 :: (s.id ++ 32 :: (Lib.itoa s.size ++ 32 :: z64))) := by
  unfold lnS
  simp only [List.append_assoc, List.cons_append, List.nil_append]
theorem split_s {s : SetD} (h1 : (32 : UInt8) ∉ s.name) (h2 : (32 : UInt8) ∉ s.id) (h3 : (32 : UInt8) ∉ Lib.itoa s.size) : splitF 32 (lnS s) = [[108, 105, 118, 101], s.name, s.id, Lib.itoa s.size, z64] := by
  rw [lnS_eq, splitF_app 32 _ [108, 105, 118, 101] (by decide), splitF_app 32 _ s.name h1, splitF_app 32 _ s.id h2, splitF_app 32 _ _ h3, splitF_one 32 z64 z64_no.2]
theorem lines_no {r : RootD} (hr : Pr r) (ht : Tx r) : ∀ l ∈ linesF r, (10 : UInt8) ∉ l := by
  intro l hl
  rcases List.mem_cons.1 hl with rfl | hl
  · decide
  rcases List.mem_append.1 hl with hl | hl
  · obtain ⟨x, hx, rfl⟩ := List.mem_map.1 hl
    have := (ht.o x hx).1
    unfold lnO
    simp only [List.mem_append, List.mem_cons, List.not_mem_nil, or_false, not_or]
    exact ⟨by decide, this⟩
  · obtain ⟨x, hx, rfl⟩ := List.mem_map.1 hl
    obtain ⟨⟨a1, -⟩, a2, -⟩ := ht.l x hx
    obtain ⟨-, -, -, k4, k5⟩ := hr.lL x hx
    have a3 := (itoa_nf k4 k5).2.1
    rw [lnS_eq]
    simp only [List.mem_append, List.mem_cons, List.not_mem_nil, or_false, not_or]
    exact ⟨by decide, by decide, a2, by decide, a1, by decide, a3, by decide, z64_no.1⟩
theorem catL_mem {l : List UInt8} : ∀ {ls : List (List UInt8)}, l ∈ ls → (l ++ [10]).length ≤ (catL ls).length
  | x :: r, h => by
    have e : (catL (x :: r)).length = (x ++ [10]).length + (catL r).length := List.length_append
    rcases List.mem_cons.1 h with rfl | h
    · omega
    · have := catL_mem h; omega
theorem print_len {r : RootD} (hr : Pr r) : (printF r).length ≤ 33 * 301 := by
  refine Nat.le_trans (catL_len (k := 300) fun l hl => ?_) (Nat.mul_le_mul_right _ ?_)
  · rcases List.mem_cons.1 hl with rfl | hl
    · simp
    rcases List.mem_append.1 hl with hl | hl
    · obtain ⟨x, hx, rfl⟩ := List.mem_map.1 hl
      have := hr.lO x hx
      unfold lnO
      rw [List.length_append]
      simp only [List.length_cons, List.length_nil]
      omega
    · obtain ⟨x, hx, rfl⟩ := List.mem_map.1 hl
      obtain ⟨h1, h2, -, h4, h5⟩ := hr.lL x hx
      have := itoa_len h4 h5
      have hz : z64.length = 64 := by unfold z64; rw [List.length_replicate]
      rw [lnS_eq]
      simp only [List.length_append, List.length_cons, List.length_nil]
      omega
  · have := hr.nO
    have := hr.nL
    unfold linesF
    rw [List.length_cons, List.length_append, List.length_map, List.length_map]; omega
/- The state of the reading, ahead of a line. -/
structure PJ (H : AH) (LO : ALoop) (r : RootD) (i : Nat) (h : AH) : Prop where
  e : Ext H.n H h
  c2 : h.at H.n = some (.cells [.lit (.slice none 0 0), .lit (.slice none 0 0)] 27)
  c3 : h.at (H.n + 1) = some (.cells [.lit (.int .i64 0)] 33)
  c5 : h.at (H.n + 3) = some (.cells [.lit (.bool (decide (i = 0)))] 4)
  d : h.at (H.n + 5) = some .defd
  l : h.at (H.n + 6) = some (.loop LO)
  r : ∃ a b m, h.at (H.n + 2) = some (.cells [a, b] 27) ∧ OwnX txC 1 (H.n + 7) h b 9 (r.ops.take (i - 1)) ∧ (∀ bb off n cap, b = .sl bb off n cap → bb < m) ∧ m ≤ h.n ∧ H.n + 7 ≤ m ∧ OwnX setC 35 m h a 39 (r.live.take (i - 1 - r.ops.length)) ∧ (i ≤ r.ops.length → a = .lit (.slice none 0 0))
theorem PJ.next {H : AH} {LO : ALoop} {r : RootD} {i : Nat} {h : AH} {y y' : AB} (e : Ext H.n H h)
    (c2 : h.at H.n = some (.cells [.lit (.slice none 0 0), .lit (.slice none 0 0)] 27)) (c3 : h.at (H.n + 1) = some (.cells [.lit (.int .i64 0)] 33)) (c5 : h.at (H.n + 3) = some y) (d : h.at (H.n + 5) = some .defd) (l : h.at (H.n + 6) = some y')
    {a b : AV} {m : Nat} (r1 : h.at (H.n + 2) = some (.cells [a, b] 27)) (r2 : OwnX txC 1 (H.n + 7) h b 9 (r.ops.take i)) (r3 : ∀ bb off n cap, b = .sl bb off n cap → bb < m) (r4 : m ≤ h.n) (r5 : H.n + 7 ≤ m) (r6 : OwnX setC 35 m h a 39 (r.live.take (i - r.ops.length))) (r7 : i + 1 ≤ r.ops.length → a = .lit (.slice none 0 0)) :
    PJ H LO r (i + 1) ((h.put (H.n + 3) (.cells [.lit (.bool false)] 4)).put (H.n + 6) (.loop LO)) := by
  have l3 := at_lt c5
  have l6 := at_lt l
  have n1 : (h.put (H.n + 3) (.cells [.lit (.bool false)] 4)).n = h.n := n_put _ _ _
  refine ⟨(e.put _ (by omega)).put _ (by omega), ?_, ?_, ?_, ?_, ?_, a, b, m, ?_, ?_, r3, ?_, r5, ?_, r7⟩
  · exact (at_put_ne _ (by omega)).trans ((at_put_ne _ (by omega)).trans c2)
  · exact (at_put_ne _ (by omega)).trans ((at_put_ne _ (by omega)).trans c3)
  · exact (at_put_ne _ (by omega)).trans (at_put_same _ l3)
  · exact (at_put_ne _ (by omega)).trans ((at_put_ne _ (by omega)).trans d)
  · exact at_put_same _ (by omega)
  · exact (at_put_ne _ (by omega)).trans ((at_put_ne _ (by omega)).trans r1)
  · exact (r2.putLt (by omega)).putLt (by omega)
  · rw [n_put, n_put]; exact r4
  · exact (r6.putLt (by omega)).putLt (by omega)
theorem ParseRoot_x {H : AH} {g : Nat} {r : RootD} {e1 : TypeId} (hb : H.at g = some (.frz (bL (printF r)) 5)) (hc : chkF r = 0) (hr : Pr r) (ht : Tx r) (hT : H.at 1 = some (.frz tabL e1)) :
    WC Tryz.prog (tabOf Tryz.prog NT0) S0 10 [.sl g 0 (printF r).length (.un 1)] H fun v h' => Ext H.n H h' ∧ ∃ a b, v = .tup [.agg [a, b], .lit (.int .i64 0)] ∧ OwnX setC 35 H.n h' a 39 r.live ∧ OwnX txC 1 H.n h' b 9 r.ops := by
  refine WC_fn Tryz.func10 rfl rfl ?_
  obtain ⟨n, hN⟩ : ∃ n, n = r.ops.length := ⟨_, rfl⟩
  obtain ⟨m, hM⟩ : ∃ m, m = r.live.length := ⟨_, rfl⟩
  have hn16 := hr.nO
  have hm16 := hr.nL
  obtain ⟨bs, hbs⟩ : ∃ bs, bs = printF r := ⟨_, rfl⟩
  have hpl := print_len hr
  rw [← hbs] at hb hpl ⊢
  have lg := at_lt hb
  have lT := at_lt hT
  have hbn : 0 < bs.length := by rw [hbs]; exact Nat.zero_lt_succ _
  have hz : ((bs.length : Int) == 0) = false := beq_eq_false_iff_ne.2 (by omega)
  obtain ⟨h1, hh1⟩ : ∃ h1, h1 = H.push (.cells [.lit (.slice none 0 0), .lit (.slice none 0 0)] 27) := ⟨_, rfl⟩
  obtain ⟨h2, hh2⟩ : ∃ h2, h2 = h1.push (.cells [.lit (.int .i64 0)] 33) := ⟨_, rfl⟩
  obtain ⟨h3, hh3⟩ : ∃ h3, h3 = h2.push (.cells [.lit (.slice none 0 0), .lit (.slice none 0 0)] 27) := ⟨_, rfl⟩
  obtain ⟨h4, hh4⟩ : ∃ h4, h4 = h3.push (.cells [.lit (.bool true)] 4) := ⟨_, rfl⟩
  have n1 : h1.n = H.n + 1 := hh1 ▸ n_push _ _
  have n2 : h2.n = H.n + 2 := by rw [hh2, n_push, n1]
  have n3 : h3.n = H.n + 3 := by rw [hh3, n_push, n2]
  have n4 : h4.n = H.n + 4 := by rw [hh4, n_push, n3]
  have A1 : h1.at H.n = some _ := hh1 ▸ at_push_n _ _
  have A2 : h2.at h1.n = some _ := hh2 ▸ at_push_n _ _
  have A3 : h3.at h2.n = some _ := hh3 ▸ at_push_n _ _
  have A4 : h4.at h3.n = some _ := hh4 ▸ at_push_n _ _
  rw [n1] at A2
  rw [n2] at A3
  rw [n3] at A4
  have e1' : Ext H.n H h1 := hh1 ▸ (Ext.refl _ _).push _ (Nat.le_refl _)
  have e2' : Ext (H.n + 1) h1 h2 := hh2 ▸ (Ext.refl _ _).push _ (by omega)
  have e3' : Ext (H.n + 2) h2 h3 := hh3 ▸ (Ext.refl _ _).push _ (by omega)
  have e4' : Ext (H.n + 3) h3 h4 := hh4 ▸ (Ext.refl _ _).push _ (by omega)
  have E4 : Ext H.n H h4 := e1'.trans ((e2'.trans ((e3'.trans (e4'.mono (by omega))).mono (by omega))).mono (by omega))
  have lA4 := at_lt A4
  have lA2 : H.n + 1 < h2.n := by omega
  have sl1 : isSl (.sl g 0 bs.length (.un 1)) = true := rfl
  have sl2 : lenD (.sl g 0 bs.length (.un 1)) = bs.length := rfl
  have sl3 : AV.one (.sl g 0 bs.length (.un 1)) = true := rfl
  simp only [core, zrA, zrS, zrM, zrL, zrE, reduceCtorEq, zrD, ziE, ziL, ziN, Tryz.ntmps10, hz, sl1, sl2, sl3, ← hh1, ← hh2, ← hh3, n1, n2, n3, ← hh4, A4, lA4]
  refine lines_x.mono ?_
  rintro _ h5 ⟨e5, rfl⟩
  have n5 : h5.n = H.n + 5 := by rw [e5, n_push, n4]
  have A5 : h5.at (H.n + 4) = some (.cells [.sl g 0 bs.length (.un 1)] 42) := by have := at_push_n h4 (.cells [.sl g 0 bs.length (.un 1)] 42); rw [n4] at this; rw [e5]; exact this
  have e5' : Ext (H.n + 4) h4 h5 := e5 ▸ (Ext.refl _ _).push _ (by omega)
  rw [n4]
  simp only [core, zrA, zrS, zrM, zrL, zrE, reduceCtorEq, zrD, ziE, ziL, ziN]
  generalize htt : TM.set _ 18 _ = tt
  have hn : tt.n = 107 := by rw [← htt]; simp only [core, zrA, zrS, zrM, zrL, zrE, reduceCtorEq, zrD, ziE, ziL, ziN]
  have g0 : tt.get 0 = .sl g 0 bs.length (.un 1) := by rw [← htt]; simp only [core, zrA, zrS, zrM, zrL, zrE, reduceCtorEq, zrD, ziE, ziL, ziN]
  have g2 : tt.get 2 = .ptr H.n 0 := by rw [← htt]; simp only [core, zrA, zrS, zrM, zrL, zrE, reduceCtorEq, zrD, ziE, ziL, ziN]
  have g3 : tt.get 3 = .ptr (H.n + 1) 0 := by rw [← htt]; simp only [core, zrA, zrS, zrM, zrL, zrE, reduceCtorEq, zrD, ziE, ziL, ziN]
  have g4 : tt.get 4 = .ptr (H.n + 2) 0 := by rw [← htt]; simp only [core, zrA, zrS, zrM, zrL, zrE, reduceCtorEq, zrD, ziE, ziL, ziN]
  have g5 : tt.get 5 = .ptr (H.n + 3) 0 := by rw [← htt]; simp only [core, zrA, zrS, zrM, zrL, zrE, reduceCtorEq, zrD, ziE, ziL, ziN]
  have g18 : tt.get 18 = .fn (.func 54) [] [.ptr (H.n + 4) 0] := by rw [← htt]; simp only [core, zrA, zrS, zrM, zrL, zrE, reduceCtorEq, zrD, ziE, ziL, ziN]
  clear htt
  have E5 : Ext H.n H h5 := E4.trans (e5'.mono (by omega))
  refine WB_rangeW rfl (fv := .fn (.func 54) [] [.ptr (H.n + 4) 0]) (by simp only [core, zrA, zrS, zrM, zrL, zrE, reduceCtorEq, zrD, ziE, ziL, ziN, g18]) rfl fun LO hLO => ?_
  rw [n5]
  have up : ∀ b y, h5.at b = some y → ((h5.push .defd).push (.loop LO)).at b = some y := fun b y hy => by
    have := at_lt hy
    exact (at_push_lt _ (by rw [n_push]; omega)).trans ((at_push_lt _ this).trans hy)
  have c2 : h5.at H.n = _ := (e5'.2 _ (by omega)).trans ((e4'.2 _ (by omega)).trans ((e3'.2 _ (by omega)).trans ((e2'.2 _ (by omega)).trans A1)))
  have c3 : h5.at (H.n + 1) = _ := (e5'.2 _ (by omega)).trans ((e4'.2 _ (by omega)).trans ((e3'.2 _ (by omega)).trans A2))
  have c4 : h5.at (H.n + 2) = _ := (e5'.2 _ (by omega)).trans ((e4'.2 _ (by omega)).trans A3)
  have c5 : h5.at (H.n + 3) = _ := (e5'.2 _ (by omega)).trans A4
  have E7 : Ext H.n H ((h5.push .defd).push (.loop LO)) := (E5.push _ E5.1).push _ (by rw [n_push]; have := E5.1; omega)
  refine (lines1_x (lp := H.n + 5 + 1) (up _ _ A5) (up _ _ (E5.at lg hb)) hbs (lines_no hr ht) (by omega) (PJ H LO r) ?_ ?_).mono ?_
  · rintro i x h hx ⟨j1, j2, j3, j5, jd, jl, a, b, mm, j4, jb, jbm, jm1, jm2, ja, jan⟩
    refine WR_round hLO jl rfl ?_
    simp only [core, zrA, zrS, zrM, zrL, zrE, reduceCtorEq, zrD, ziE, ziL, ziN, sp_cons, sp_nil, hn]
    refine WB_beginL hLO rfl jl ?_
    obtain ⟨hA, hhA⟩ : ∃ hA, hA = h.put (H.n + 6) (.loop (busyL LO)) := ⟨_, rfl⟩
    have EA : Ext H.n H hA := hhA ▸ j1.put _ (by omega)
    have a2 : hA.at H.n = _ := (hhA ▸ at_put_ne _ (by omega) : hA.at H.n = h.at H.n).trans j2
    have a3 : hA.at (H.n + 1) = _ := (hhA ▸ at_put_ne _ (by omega) : hA.at (H.n + 1) = h.at (H.n + 1)).trans j3
    have a4 : hA.at (H.n + 2) = _ := (hhA ▸ at_put_ne _ (by omega) : hA.at (H.n + 2) = h.at (H.n + 2)).trans j4
    have a5 : hA.at (H.n + 3) = _ := (hhA ▸ at_put_ne _ (by omega) : hA.at (H.n + 3) = h.at (H.n + 3)).trans j5
    have ad : hA.at (H.n + 5) = _ := (hhA ▸ at_put_ne _ (by omega) : hA.at (H.n + 5) = h.at (H.n + 5)).trans jd
    have al : hA.at (H.n + 6) = some (.loop (busyL LO)) := hhA ▸ at_put_same _ (at_lt jl)
    have nA : hA.n = h.n := hhA ▸ n_put _ _ _
    have ob : OwnX txC 1 (H.n + 7) hA b 9 (r.ops.take (i - 1)) := hhA ▸ jb.putLt (by omega)
    have oa : OwnX setC 35 mm hA a 39 (r.live.take (i - 1 - r.ops.length)) := hhA ▸ ja.putLt (by omega)
    rw [← hhA]
    clear hhA
    have hxl : x.length ≤ 1100000 := by
      have h1 : (x ++ [10]).length ≤ (catL (linesF r)).length := by
        exact catL_mem (List.mem_of_getElem? hx)
      have h2 : (catL (linesF r)).length ≤ 33 * 301 := by rw [hbs] at hpl; exact hpl
      rw [List.length_append] at h1
      omega
    simp only [core, zrA, zrS, zrM, zrL, zrE, reduceCtorEq, zrD, ziE, ziL, ziN, sp_cons, sp_nil, hn, g0, g2, g3, g4, g5]
    refine (split_x (c := 32) hxl).mono ?_
    rintro ws hB ⟨EB, hws⟩
    have nB := EB.1
    have lA := at_lt al
    have E : Ext H.n H hB := EA.trans (EB.mono EA.1)
    have b2 := (EB.2 H.n (by omega)).trans a2
    have b3 := (EB.2 (H.n + 1) (by omega)).trans a3
    have b4 := (EB.2 (H.n + 2) (by omega)).trans a4
    have b5 := (EB.2 (H.n + 3) (by omega)).trans a5
    have bd := (EB.2 (H.n + 5) (by omega)).trans ad
    have bl := (EB.2 (H.n + 6) (by omega)).trans al
    have ob2 := ob.ext EB (Nat.le_refl _)
    have oa2 := oa.ext EB (Nat.le_refl _)
    have LB4 := ld_at (T := tabOf Tryz.prog NT0) b4
    have lb4 := at_lt b4
    have lb5 := at_lt b5
    have w1 := hws.one
    have w2 := hws.isSl
    have w3 := hws.lenD
    have hbk := busy_back hLO
    have ld : ∀ {hh : AH}, Ext hB.n hB hh → ∀ (j : Nat) (y : List UInt8), (splitF 32 x)[j]? = some y → loadA (tabOf Tryz.prog NT0) hh 9 (slB ws) (slO ws + j) = some (.lit (.string ⟨y.toArray⟩)) := fun {hh} eh j y hy => by
      obtain ⟨cc, hc1, hld, hld0⟩ := hws.atE (T := tabOf Tryz.prog NT0) eh RTx_z hy
      obtain rfl := RTx_is.1 hc1
      have := hld0 9 1 (by kernel_rfl) (by decide) (by decide)
      rw [Nat.mul_one] at this
      rw [this]
      rfl
    rcases Nat.eq_zero_or_pos i with rfl | hpos
    · obtain rfl : [114, 111, 111, 116] = x := Option.some.inj hx
      have b5' : hB.at (H.n + 3) = some (.cells [.lit (.bool true)] 4) := b5
      have LB5 := ld_at (T := tabOf Tryz.prog NT0) b5'
      have q0 : ∀ {P : Program} {e : TypeId}, pur P (binOp .eql e (Value.string ⟨#[114, 111, 111, 116]⟩) (Value.string ⟨#[114, 111, 111, 116]⟩)) = some (.ok (Value.bool true)) := pur_seq1 (a := [114, 111, 111, 116])
      simp only [core, zrA, zrS, zrM, zrL, zrE, reduceCtorEq, zrD, ziE, ziL, ziN, sp_cons, sp_nil, hn, g0, g2, g3, g4, g5, w1, w2, LB5, lb5, b5', q0]
      refine ⟨_, (at_put_ne _ (by omega)).trans bl, rfl, ?_⟩
      show PJ H LO r 1 ((hB.put (H.n + 3) (.cells [.lit (.bool false)] 4)).put (H.n + 6) (.loop { busyL LO with state := .ready, pending := none }))
      rw [hbk]
      exact PJ.next (i := 0) E b2 b3 b5 bd bl b4 ob2 jbm (by omega) jm2 oa2 fun _ => jan (by omega)
    · obtain ⟨j, rfl⟩ : ∃ j, i = j + 1 := ⟨i - 1, by omega⟩
      have b5' : hB.at (H.n + 3) = some (.cells [.lit (.bool false)] 4) := b5
      have LB5 := ld_at (T := tabOf Tryz.prog NT0) b5'
      rw [Nat.add_sub_cancel] at ob2 oa2
      have hx' : (r.ops.map lnO ++ r.live.map lnS)[j]? = some x := hx
      by_cases hj : j < r.ops.length
      · rw [List.getElem?_append_left (by rw [List.length_map]; exact hj), List.getElem?_map] at hx'
        obtain ⟨y, hy, rfl⟩ := Option.map_eq_some_iff.1 hx'
        have hym := List.mem_of_getElem? hy
        rw [split_o (ht.o y hym).2] at w3 ld
        have l0 := ld (Ext.refl _ _) 0 _ rfl
        have l1 := ld (Ext.refl _ _) 1 _ rfl
        have c2i : (((2 : Nat) : Int) == 2) = true := by decide
        replace w3 : lenD ws = 2 := w3
        rw [Nat.add_zero] at l0
        have q0 : ∀ {P : Program} {e : TypeId}, pur P (binOp .eql e (Value.string ⟨#[111, 112, 101, 110]⟩) (Value.string ⟨#[111, 112, 101, 110]⟩)) = some (.ok (Value.bool true)) := pur_seq1 (a := [111, 112, 101, 110])
        simp only [core, zrA, zrS, zrM, zrL, zrE, reduceCtorEq, zrD, ziE, ziL, ziN, sp_cons, sp_nil, hn, g0, g2, g3, g4, g5, w1, w2, w3, LB5, lb5, b5', q0, l0, l1, c2i]
        obtain rfl := jan (by omega)
        have v1 := ob2.one
        have v2 := ob2.isSl
        have e7 : Ext hB.n hB (hB.push (.cells [.lit (.string ⟨y.toArray⟩)] 9)) := (Ext.refl _ _).push _ (Nat.le_refl _)
        have l17 := ld e7 1 _ rfl
        have hsn := fun cap => snocT (cap := cap) (x := y) (ob2.ext e7 (Nat.le_refl _)) (by rw [n_push]; omega) (at_push_n hB _) (by rw [List.length_take]; omega)
        rw [WB_regionD [0, 1, 2, 3, 4, 5, 6, 7, 8] 1205375957273533772464640 (by kernel_rfl)]
        repeat (first | ((with_reducible refine WDM_cons ?_; simp only [dw1]; try simp only [dw2, zrA, zrM, zrR, zrO, zrE]); simp only [core, zrA, zrS, zrM, zrL, zrE, reduceCtorEq, zrD, ziE, ziL, ziN, cored, sp_cons, sp_nil, hn, g0, g2, g3, g4, g5, w1, w2, w3, LB4, lb4, b4, v1, v2, l0, l1, l17, same_sl, same_one, same_str, same_int]) | simp only [core, zrA, zrS, zrM, zrL, zrE, reduceCtorEq, zrD, ziE, ziL, ziN, cored, sp_cons, sp_nil, hn, g0, g2, g3, g4, g5, w1, w2, w3, LB4, lb4, b4, v1, v2, l0, l1, l17, same_sl, same_one, same_str, same_int])
        refine WOpD_app (hsn _) ?_
        rintro s8 h8 ⟨o8, e8⟩
        have E8 : Ext (H.n + 7) hB h8 := (e7.mono (by omega)).trans (e8.mono (by omega))
        have x1 := o8.one
        have x2 := o8.isSl
        have d2 := (E8.2 H.n (by omega)).trans b2
        have d3 := (E8.2 (H.n + 1) (by omega)).trans b3
        have d4 := (E8.2 (H.n + 2) (by omega)).trans b4
        have d5 := (E8.2 (H.n + 3) (by omega)).trans b5
        have dd := (E8.2 (H.n + 5) (by omega)).trans bd
        have dl := (E8.2 (H.n + 6) (by omega)).trans bl
        have ld4 := at_lt d4
        have ld5 := at_lt d5
        have LD4 := ld_at (T := tabOf Tryz.prog NT0) d4
        obtain ⟨hC, hhC⟩ : ∃ hC, hC = h8.put (H.n + 2) (.cells [.lit (.slice none 0 0), s8] 27) := ⟨_, rfl⟩
        have nC : hC.n = h8.n := hhC ▸ n_put _ _ _
        have c5' : hC.at (H.n + 3) = _ := (hhC ▸ at_put_ne _ (by omega) : hC.at (H.n + 3) = h8.at (H.n + 3)).trans d5
        have lc5 := at_lt c5'
        repeat (first | ((with_reducible refine WDM_cons ?_; simp only [dw1]; try simp only [dw2, zrA, zrM, zrR, zrO, zrE]); simp only [core, zrA, zrS, zrM, zrL, zrE, reduceCtorEq, zrD, ziE, ziL, ziN, cored, sp_cons, sp_nil, hn, g0, g2, g3, g4, g5, w1, w2, w3, LD4, ld4, d4, d5, ld5, v1, v2, x1, x2, ← hhC, c5', lc5, same_sl, same_one, same_str, same_int]) | simp only [core, zrA, zrS, zrM, zrL, zrE, reduceCtorEq, zrD, ziE, ziL, ziN, cored, sp_cons, sp_nil, hn, g0, g2, g3, g4, g5, w1, w2, w3, LD4, ld4, d4, d5, ld5, v1, v2, x1, x2, ← hhC, c5', lc5, same_sl, same_one, same_str, same_int])
        refine ⟨_, (at_put_ne _ (by omega)).trans ((hhC ▸ at_put_ne _ (by omega) : hC.at (H.n + 6) = h8.at (H.n + 6)).trans dl), rfl, ?_⟩
        show PJ H LO r (j + 1 + 1) ((hC.put (H.n + 3) (.cells [.lit (.bool false)] 4)).put (H.n + 6) (.loop { busyL LO with state := .ready, pending := none }))
        rw [hbk]
        have htk : r.ops.take (j + 1) = r.ops.take j ++ [y] := by
          obtain ⟨h1, h2⟩ := List.getElem?_eq_some_iff.1 hy
          rw [List.take_succ_eq_append_getElem h1, h2]
        have EC : Ext H.n H hC := hhC ▸ (E.trans (E8.mono (by omega))).put _ (by omega)
        have oC : OwnX txC 1 (H.n + 7) hC s8 9 (r.ops.take (j + 1)) := by rw [htk]; exact hhC ▸ o8.putLt (by omega)
        refine PJ.next (i := j + 1) (m := hC.n) EC ((hhC ▸ at_put_ne _ (by omega) : hC.at H.n = h8.at H.n).trans d2) ((hhC ▸ at_put_ne _ (by omega) : hC.at (H.n + 1) = h8.at (H.n + 1)).trans d3) c5' ((hhC ▸ at_put_ne _ (by omega) : hC.at (H.n + 5) = h8.at (H.n + 5)).trans dd) ((hhC ▸ at_put_ne _ (by omega) : hC.at (H.n + 6) = h8.at (H.n + 6)).trans dl) (hhC ▸ at_put_same _ ld4) oC (fun bb off n cap e => (oC.blk e).1) (Nat.le_refl _) ?_ ?_ fun _ => rfl
        · have := E8.1; omega
        · rw [show j + 1 - r.ops.length = 0 by omega]
          exact .inl ⟨rfl, rfl⟩
      · obtain ⟨k, rfl⟩ : ∃ k, j = r.ops.length + k := ⟨j - r.ops.length, by omega⟩
        rw [List.getElem?_append_right (by rw [List.length_map]; omega), List.length_map, Nat.add_sub_cancel_left, List.getElem?_map] at hx'
        obtain ⟨y, hy, rfl⟩ := Option.map_eq_some_iff.1 hx'
        have hym := List.mem_of_getElem? hy
        obtain ⟨⟨-, y1⟩, -, y2⟩ := ht.l y hym
        obtain ⟨-, -, y3, y4, y5⟩ := hr.lL y hym
        obtain ⟨y6, -, y7⟩ := itoa_nf y4 y5
        rw [split_s y2 y1 y7] at w3 ld
        have l0 := ld (Ext.refl _ _) 0 _ rfl
        have l3 := ld (Ext.refl _ _) 3 _ rfl
        have l4 := ld (Ext.refl _ _) 4 _ rfl
        have c2i : (((5 : Nat) : Int) == 2) = false := by decide
        have c5i : (((5 : Nat) : Int) == 5) = true := by decide
        replace w3 : lenD ws = 5 := w3
        rw [Nat.add_zero] at l0
        have q0 : ∀ {P : Program} {e : TypeId}, pur P (binOp .eql e (Value.string ⟨#[108, 105, 118, 101]⟩) (Value.string ⟨#[108, 105, 118, 101]⟩)) = some (.ok (Value.bool true)) := pur_seq1 (a := [108, 105, 118, 101])
        obtain ⟨dg, hdg⟩ : ∃ dg, dg = Lib.itoa y.size := ⟨_, rfl⟩
        rw [← hdg] at y6 l3
        simp only [core, zrA, zrS, zrM, zrL, zrE, reduceCtorEq, zrD, ziE, ziL, ziN, sp_cons, sp_nil, hn, g0, g2, g3, g4, g5, w1, w2, w3, LB5, lb5, b5', q0, l0, l3, l4, c2i, c5i, aundef]
        refine (natural_v y6).mono ?_
        rintro _ _ ⟨q5, rfl⟩
        replace q5 := q5.symm
        subst q5
        have ysz : ((y.size.toNat : Nat) : Int) = y.size := Int.toNat_of_nonneg y4
        rw [ysz]
        simp only [core, zrA, zrS, zrM, zrL, zrE, reduceCtorEq, zrD, ziE, ziL, ziN, sp_cons, sp_nil, hn, g0, g2, g3, g4, g5, w1, w2, w3, LB5, lb5, b5', q0, l0, l3, l4, c2i, c5i]
        refine sha0_c ?_
        have hzs : zs32 = [.lit (.int .u8 0), .lit (.int .u8 0), .lit (.int .u8 0), .lit (.int .u8 0), .lit (.int .u8 0), .lit (.int .u8 0), .lit (.int .u8 0), .lit (.int .u8 0), .lit (.int .u8 0), .lit (.int .u8 0), .lit (.int .u8 0), .lit (.int .u8 0), .lit (.int .u8 0), .lit (.int .u8 0), .lit (.int .u8 0), .lit (.int .u8 0), .lit (.int .u8 0), .lit (.int .u8 0), .lit (.int .u8 0), .lit (.int .u8 0), .lit (.int .u8 0), .lit (.int .u8 0), .lit (.int .u8 0), .lit (.int .u8 0), .lit (.int .u8 0), .lit (.int .u8 0), .lit (.int .u8 0), .lit (.int .u8 0), .lit (.int .u8 0), .lit (.int .u8 0), .lit (.int .u8 0), .lit (.int .u8 0)] := rfl
        rw [hzs]
        clear hzs
        obtain ⟨hD, hhD⟩ : ∃ hD, hD = hB.push (.cells [.lit (.int .u8 0), .lit (.int .u8 0), .lit (.int .u8 0), .lit (.int .u8 0), .lit (.int .u8 0), .lit (.int .u8 0), .lit (.int .u8 0), .lit (.int .u8 0), .lit (.int .u8 0), .lit (.int .u8 0), .lit (.int .u8 0), .lit (.int .u8 0), .lit (.int .u8 0), .lit (.int .u8 0), .lit (.int .u8 0), .lit (.int .u8 0), .lit (.int .u8 0), .lit (.int .u8 0), .lit (.int .u8 0), .lit (.int .u8 0), .lit (.int .u8 0), .lit (.int .u8 0), .lit (.int .u8 0), .lit (.int .u8 0), .lit (.int .u8 0), .lit (.int .u8 0), .lit (.int .u8 0), .lit (.int .u8 0), .lit (.int .u8 0), .lit (.int .u8 0), .lit (.int .u8 0), .lit (.int .u8 0)] 37) := ⟨_, rfl⟩
        have eD : Ext hB.n hB hD := hhD ▸ (Ext.refl _ _).push _ (Nat.le_refl _)
        have nD : hD.n = hB.n + 1 := by rw [hhD, n_push]
        have D11 : hD.at hB.n = some (.cells [.lit (.int .u8 0), .lit (.int .u8 0), .lit (.int .u8 0), .lit (.int .u8 0), .lit (.int .u8 0), .lit (.int .u8 0), .lit (.int .u8 0), .lit (.int .u8 0), .lit (.int .u8 0), .lit (.int .u8 0), .lit (.int .u8 0), .lit (.int .u8 0), .lit (.int .u8 0), .lit (.int .u8 0), .lit (.int .u8 0), .lit (.int .u8 0), .lit (.int .u8 0), .lit (.int .u8 0), .lit (.int .u8 0), .lit (.int .u8 0), .lit (.int .u8 0), .lit (.int .u8 0), .lit (.int .u8 0), .lit (.int .u8 0), .lit (.int .u8 0), .lit (.int .u8 0), .lit (.int .u8 0), .lit (.int .u8 0), .lit (.int .u8 0), .lit (.int .u8 0), .lit (.int .u8 0), .lit (.int .u8 0)] 37) := hhD ▸ at_push_n _ _
        simp only [core, zrA, zrS, zrM, zrL, zrE, reduceCtorEq, zrD, ziE, ziL, ziN, sp_cons, sp_nil, hn, g0, g2, g3, g4, g5, w1, w2, w3, LB5, lb5, b5', q0, l0, l3, l4, c2i, c5i]
        simp only [← hhD]
        have hsy : setC y = [.lit (.string ⟨y.name.toArray⟩), .lit (.string ⟨y.id.toArray⟩), .lit (.int .i64 y.size), .lit (.int .u8 0), .lit (.int .u8 0), .lit (.int .u8 0), .lit (.int .u8 0), .lit (.int .u8 0), .lit (.int .u8 0), .lit (.int .u8 0), .lit (.int .u8 0), .lit (.int .u8 0), .lit (.int .u8 0), .lit (.int .u8 0), .lit (.int .u8 0), .lit (.int .u8 0), .lit (.int .u8 0), .lit (.int .u8 0), .lit (.int .u8 0), .lit (.int .u8 0), .lit (.int .u8 0), .lit (.int .u8 0), .lit (.int .u8 0), .lit (.int .u8 0), .lit (.int .u8 0), .lit (.int .u8 0), .lit (.int .u8 0), .lit (.int .u8 0), .lit (.int .u8 0), .lit (.int .u8 0), .lit (.int .u8 0), .lit (.int .u8 0), .lit (.int .u8 0), .lit (.int .u8 0), .lit (.int .u8 0)] := by unfold setC; rw [y3]
        obtain ⟨hF, hhF⟩ : ∃ hF, hF = hD.push (.cells [.lit (.string ⟨y.name.toArray⟩), .lit (.string ⟨y.id.toArray⟩), .lit (.int .i64 y.size), .lit (.int .u8 0), .lit (.int .u8 0), .lit (.int .u8 0), .lit (.int .u8 0), .lit (.int .u8 0), .lit (.int .u8 0), .lit (.int .u8 0), .lit (.int .u8 0), .lit (.int .u8 0), .lit (.int .u8 0), .lit (.int .u8 0), .lit (.int .u8 0), .lit (.int .u8 0), .lit (.int .u8 0), .lit (.int .u8 0), .lit (.int .u8 0), .lit (.int .u8 0), .lit (.int .u8 0), .lit (.int .u8 0), .lit (.int .u8 0), .lit (.int .u8 0), .lit (.int .u8 0), .lit (.int .u8 0), .lit (.int .u8 0), .lit (.int .u8 0), .lit (.int .u8 0), .lit (.int .u8 0), .lit (.int .u8 0), .lit (.int .u8 0), .lit (.int .u8 0), .lit (.int .u8 0), .lit (.int .u8 0)] 39) := ⟨_, rfl⟩
        have eF : Ext hD.n hD hF := hhF ▸ (Ext.refl _ _).push _ (Nat.le_refl _)
        have nF : hF.n = hD.n + 1 := by rw [hhF, n_push]
        have F0 : hF.at hD.n = some (.cells (setC y) 39) := by rw [hsy]; exact hhF ▸ at_push_n _ _
        have eBF : Ext hB.n hB hF := eD.trans (eF.mono (by omega))
        have l1d := ld eD 1 _ rfl
        have l2d := ld eD 2 _ rfl
        have l1f := ld eBF 1 _ rfl
        have l2f := ld eBF 2 _ rfl
        have LD11 := ld_at (T := tabOf Tryz.prog NT0) D11
        have ld11 := at_lt D11
        have F11 := (eF.2 _ ld11).trans D11
        have LF11 := ld_at (T := tabOf Tryz.prog NT0) F11
        have lf11 := at_lt F11
        have D4 := (eD.2 (H.n + 2) lb4).trans b4
        have LD4 := ld_at (T := tabOf Tryz.prog NT0) D4
        have ld4 := at_lt D4
        have F4 := (eF.2 (H.n + 2) ld4).trans D4
        have LF4 := ld_at (T := tabOf Tryz.prog NT0) F4
        have lf4 := at_lt F4
        rw [show r.ops.length + k - r.ops.length = k by omega] at oa2
        have v1 := oa2.one
        have v2 := oa2.isSl
        have v3 := ob2.one
        have v4 := ob2.isSl
        have hsn := fun cap => snocM (cap := cap) (x := y) (oa2.ext eBF (Nat.le_refl _)) (by have := eBF.1; omega) F0 (by rw [List.length_take]; omega)
        rw [WB_regionD [0, 1, 2, 3, 4, 5, 6, 7, 8, 9, 10, 11, 12, 13, 14] 26958712494791499842242654810681985190836840126611163905643635572736 (by kernel_rfl)]
        repeat (first | ((with_reducible refine WDM_cons ?_; simp only [dw1]; try simp only [dw2, zrA, zrM, zrR, zrO, zrE]); simp only [core, zrA, zrS, zrM, zrL, zrE, reduceCtorEq, zrD, ziE, ziL, ziN, cored, sp_cons, sp_nil, hn, g0, g2, g3, g4, g5, w1, w2, w3, LD4, ld4, D4, LF4, lf4, F4, v1, v2, v3, v4, l1d, l2d, l1f, l2f, LD11, ld11, LF11, lf11, ← hhF, same_sl, same_one, same_str, same_int]) | simp only [core, zrA, zrS, zrM, zrL, zrE, reduceCtorEq, zrD, ziE, ziL, ziN, cored, sp_cons, sp_nil, hn, g0, g2, g3, g4, g5, w1, w2, w3, LD4, ld4, D4, LF4, lf4, F4, v1, v2, v3, v4, l1d, l2d, l1f, l2f, LD11, ld11, LF11, lf11, ← hhF, same_sl, same_one, same_str, same_int])
        refine WOpD_app (hsn _) ?_
        rintro s8 h8 ⟨o8, e8⟩
        have n8 := e8.1
        have E8 : Ext mm hB h8 := (eBF.mono (by omega)).trans (e8.mono (Nat.le_refl _))
        have x1 := o8.one
        have x2 := o8.isSl
        have d2 := (E8.2 H.n (by omega)).trans b2
        have d3 := (E8.2 (H.n + 1) (by omega)).trans b3
        have d4 := (E8.2 (H.n + 2) (by omega)).trans b4
        have d5 := (E8.2 (H.n + 3) (by omega)).trans b5
        have dd := (E8.2 (H.n + 5) (by omega)).trans bd
        have dl := (E8.2 (H.n + 6) (by omega)).trans bl
        have ob8 : OwnX txC 1 (H.n + 7) h8 b 9 (r.ops.take (r.ops.length + k)) := ob2.keep fun bb off n cap e => E8.2 _ (jbm bb off n cap e)
        have ld4' := at_lt d4
        have ld5 := at_lt d5
        have LD4' := ld_at (T := tabOf Tryz.prog NT0) d4
        obtain ⟨hC, hhC⟩ : ∃ hC, hC = h8.put (H.n + 2) (.cells [s8, b] 27) := ⟨_, rfl⟩
        have nC : hC.n = h8.n := hhC ▸ n_put _ _ _
        have c5' : hC.at (H.n + 3) = _ := (hhC ▸ at_put_ne _ (by omega) : hC.at (H.n + 3) = h8.at (H.n + 3)).trans d5
        have lc5 := at_lt c5'
        repeat (first | ((with_reducible refine WDM_cons ?_; simp only [dw1]; try simp only [dw2, zrA, zrM, zrR, zrO, zrE]); simp only [core, zrA, zrS, zrM, zrL, zrE, reduceCtorEq, zrD, ziE, ziL, ziN, cored, sp_cons, sp_nil, hn, g0, g2, g3, g4, g5, w1, w2, w3, LD4', ld4', d4, d5, ld5, v3, v4, x1, x2, ← hhC, c5', lc5, same_sl, same_one, same_str, same_int]) | simp only [core, zrA, zrS, zrM, zrL, zrE, reduceCtorEq, zrD, ziE, ziL, ziN, cored, sp_cons, sp_nil, hn, g0, g2, g3, g4, g5, w1, w2, w3, LD4', ld4', d4, d5, ld5, v3, v4, x1, x2, ← hhC, c5', lc5, same_sl, same_one, same_str, same_int])
        refine ⟨_, (at_put_ne _ (by omega)).trans ((hhC ▸ at_put_ne _ (by omega) : hC.at (H.n + 6) = h8.at (H.n + 6)).trans dl), rfl, ?_⟩
        show PJ H LO r (r.ops.length + k + 1 + 1) ((hC.put (H.n + 3) (.cells [.lit (.bool false)] 4)).put (H.n + 6) (.loop { busyL LO with state := .ready, pending := none }))
        rw [hbk]
        have htk : r.live.take (k + 1) = r.live.take k ++ [y] := by
          obtain ⟨h1, h2⟩ := List.getElem?_eq_some_iff.1 hy
          rw [List.take_succ_eq_append_getElem h1, h2]
        have EC : Ext H.n H hC := hhC ▸ (E.trans (E8.mono (by omega))).put _ (by omega)
        have oC : OwnX setC 35 mm hC s8 39 (r.live.take (k + 1)) := by rw [htk]; exact hhC ▸ o8.putLt (by omega)
        have obC : OwnX txC 1 (H.n + 7) hC b 9 (r.ops.take (r.ops.length + k + 1)) := by
          rw [List.take_of_length_le (by omega)]
          rw [List.take_of_length_le (by omega)] at ob8
          exact hhC ▸ ob8.putLt (by omega)
        refine PJ.next (i := r.ops.length + k + 1) (m := mm) EC ((hhC ▸ at_put_ne _ (by omega) : hC.at H.n = h8.at H.n).trans d2) ((hhC ▸ at_put_ne _ (by omega) : hC.at (H.n + 1) = h8.at (H.n + 1)).trans d3) c5' ((hhC ▸ at_put_ne _ (by omega) : hC.at (H.n + 5) = h8.at (H.n + 5)).trans dd) ((hhC ▸ at_put_ne _ (by omega) : hC.at (H.n + 6) = h8.at (H.n + 6)).trans dl) (hhC ▸ at_put_same _ ld4') obC jbm (by have := E8.1; omega) jm2 ?_ fun h => by omega
        rw [show r.ops.length + k + 1 - r.ops.length = k + 1 by omega]
        exact oC
  · refine ⟨E7, up _ _ c2, up _ _ c3, up _ _ c5, ?_, ?_, _, _, H.n + 7, up _ _ c4, .inl ⟨rfl, by simp⟩, fun _ _ _ _ e => (by cases e), ?_, Nat.le_refl _, .inl ⟨rfl, by simp⟩, fun _ => rfl⟩
    · have := at_push_n h5 .defd
      rw [n5] at this
      exact (at_push_lt _ (by rw [n_push]; omega)).trans this
    · have := at_push_n (h5.push .defd) (.loop LO)
      rw [n_push, n5] at this
      exact this
    · rw [n_push, n_push]; omega
  · rintro _ h ⟨j1, j2, j3, j5, jd, jl, a, b, mm, j4, jb, jbm, jm1, jm2, ja, jan⟩
    have hll : (linesF r).length = r.ops.length + r.live.length + 1 := by unfold linesF; rw [List.length_cons, List.length_append, List.length_map, List.length_map]
    rw [hll, Nat.add_sub_cancel] at jb ja
    rw [List.take_of_length_le (by omega)] at jb
    rw [show r.ops.length + r.live.length - r.ops.length = r.live.length by omega, List.take_length] at ja
    refine ⟨LO, jl, by rw [hLO]; simp, ?_⟩
    obtain ⟨hA, hhA⟩ : ∃ hA, hA = h.put (H.n + 6) (.loop { LO with state := .exhausted }) := ⟨_, rfl⟩
    have EA : Ext H.n H hA := hhA ▸ j1.put _ (by omega)
    have a2 : hA.at H.n = _ := (hhA ▸ at_put_ne _ (by omega) : hA.at H.n = h.at H.n).trans j2
    have a3 : hA.at (H.n + 1) = _ := (hhA ▸ at_put_ne _ (by omega) : hA.at (H.n + 1) = h.at (H.n + 1)).trans j3
    have a4 : hA.at (H.n + 2) = _ := (hhA ▸ at_put_ne _ (by omega) : hA.at (H.n + 2) = h.at (H.n + 2)).trans j4
    have ad : hA.at (H.n + 5) = _ := (hhA ▸ at_put_ne _ (by omega) : hA.at (H.n + 5) = h.at (H.n + 5)).trans jd
    have lj := at_lt jl
    have nA : hA.n = h.n := hhA ▸ n_put _ _ _
    have ob : OwnX txC 1 (H.n + 7) hA b 9 r.ops := hhA ▸ jb.putLt (by omega)
    have oa : OwnX setC 35 mm hA a 39 r.live := hhA ▸ ja.putLt (by omega)
    show WB _ _ _ _ _ ((LO.pending.map AI.code).toList ++ _) (h.put (H.n + 6) (.loop { LO with state := .exhausted })) _
    rw [← hhA]
    have v1 := oa.one
    have v2 := oa.isSl
    have v3 := ob.one
    have v4 := ob.isSl
    have LA4 := ld_at (T := tabOf Tryz.prog NT0) a4
    have la4 := at_lt a4
    rw [hLO]
    simp only [core, zrA, zrS, zrM, zrL, zrE, reduceCtorEq, zrD, ziE, ziL, ziN, Option.map_none, Option.toList_none, List.nil_append, hn, g0, g2, g3, g4, g5, LA4, la4, v1, v2, v3, v4]
    have Sl := oa.toSl flatSet (F := fun _ => True) fun _ _ => trivial
    have So := ob.toSl flatTx (F := fun _ => True) fun _ _ => trivial
    have hbA := EA.at lg hb
    have hTA := EA.at lT hT
    rw [WB_regionD [0, 1, 2, 3, 4, 7, 8, 5, 6, 9, 10] 1328253850557268268669542326540961792 (by kernel_rfl)]
    repeat (first | ((with_reducible refine WDM_cons ?_; simp only [dw1]; try simp only [dw2, zrA, zrM, zrR, zrO, zrE]); simp only [core, zrA, zrS, zrM, zrL, zrE, reduceCtorEq, zrD, ziE, ziL, ziN, cored, hn, g0, g2, g3, g4, g5, LA4, la4, a4, v1, v2, v3, v4]) | simp only [core, zrA, zrS, zrM, zrL, zrE, reduceCtorEq, zrD, ziE, ziL, ziN, cored, hn, g0, g2, g3, g4, g5, LA4, la4, a4, v1, v2, v3, v4])
    refine (CheckRoot_x Sl So (fun x hx => by have := hr.lO x hx; omega) fun s hs => by obtain ⟨h1, h2, -⟩ := hr.lL s hs; omega).mono ?_
    rintro _ hB ⟨EB, rfl⟩
    have nB := EB.1
    have b2 := (EB.2 H.n (by omega)).trans a2
    have b3 := (EB.2 (H.n + 1) (by omega)).trans a3
    have b4 := (EB.2 (H.n + 2) (by omega)).trans a4
    have bd := (EB.2 (H.n + 5) (by omega)).trans ad
    have hbB := EB.at (at_lt hbA) hbA
    have hTB := EB.at (at_lt hTA) hTA
    have LB4 := ld_at (T := tabOf Tryz.prog NT0) b4
    have lb4 := at_lt b4
    have hbyB := bytesAt_frz hbB
    rw [hc]
    have c0 : ((0 : Int) != 0) = false := by decide
    repeat (first | ((with_reducible refine WDM_cons ?_; simp only [dw1]; try simp only [dw2, zrA, zrM, zrR, zrO, zrE]); simp only [core, zrA, zrS, zrM, zrL, zrE, reduceCtorEq, zrD, ziE, ziL, ziN, cored, hn, g0, g2, g3, g4, g5, LB4, lb4, b4, v1, v2, v3, v4, c0, a_conM, conM_sl, hbyB, sl1, sl3]) | simp only [core, zrA, zrS, zrM, zrL, zrE, reduceCtorEq, zrD, ziE, ziL, ziN, cored, hn, g0, g2, g3, g4, g5, LB4, lb4, b4, v1, v2, v3, v4, c0, a_conM, conM_sl, hbyB, sl1, sl3])
    refine (PrintRoot_x (Sl.ext EB (Nat.le_refl _)) (So.ext EB (Nat.le_refl _)) hr hTB).mono ?_
    rintro _ hC ⟨EC, g9, hg9, rfl, hC9⟩
    rw [← hbs] at hC9 ⊢
    have nC := EC.1
    have c2' := (EC.2 H.n (by omega)).trans b2
    have c3' := (EC.2 (H.n + 1) (by omega)).trans b3
    have c4' := (EC.2 (H.n + 2) (by omega)).trans b4
    have cd := (EC.2 (H.n + 5) (by omega)).trans bd
    have LC4 := ld_at (T := tabOf Tryz.prog NT0) c4'
    have lc4 := at_lt c4'
    have lc2 := at_lt c2'
    have lc3 := at_lt c3'
    have hbyC := bytesAt_frz ((EC.2 _ (at_lt hbB)).trans hbB)
    have hbyD := bytesAt_frz hC9
    have q9 : ∀ {P : Program} {e : TypeId}, pur P (binOp .neq e (Value.string ⟨bs.toArray⟩) (Value.string ⟨bs.toArray⟩)) = some (.ok (Value.bool false)) := pur_sne1
    have EHC : Ext H.n H hC := EA.trans ((EB.trans (EC.mono EB.1)).mono (by omega))
    have obC := (ob.ext EB (Nat.le_refl _)).ext EC (Nat.le_refl _)
    have oaC := (oa.ext EB (Nat.le_refl _)).ext EC (Nat.le_refl _)
    obtain ⟨hE, hhE⟩ : ∃ hE, hE = hC.put H.n (.cells [a, b] 27) := ⟨_, rfl⟩
    have nE : hE.n = hC.n := hhE ▸ n_put _ _ _
    have E2 : hE.at H.n = some (.cells [a, b] 27) := hhE ▸ at_put_same _ lc2
    have E3 : hE.at (H.n + 1) = _ := (hhE ▸ at_put_ne _ (by omega) : hE.at (H.n + 1) = hC.at (H.n + 1)).trans c3'
    have lE3 := at_lt E3
    obtain ⟨hG, hhG⟩ : ∃ hG, hG = hE.put (H.n + 1) (.cells [.lit (.int .i64 0)] 33) := ⟨_, rfl⟩
    have nG : hG.n = hE.n := hhG ▸ n_put _ _ _
    have G2 : hG.at H.n = some (.cells [a, b] 27) := (hhG ▸ at_put_ne _ (by omega) : hG.at H.n = hE.at H.n).trans E2
    have G3 : hG.at (H.n + 1) = some (.cells [.lit (.int .i64 0)] 33) := hhG ▸ at_put_same _ lE3
    have Gd : hG.at (H.n + 5) = _ := (hhG ▸ at_put_ne _ (by omega) : hG.at (H.n + 5) = hE.at (H.n + 5)).trans ((hhE ▸ at_put_ne _ (by omega) : hE.at (H.n + 5) = hC.at (H.n + 5)).trans cd)
    have EG : Ext H.n H hG := hhG ▸ (hhE ▸ EHC.put _ (Nat.le_refl _) : Ext H.n H hE).put _ (by omega)
    have oG : OwnX txC 1 (H.n + 7) hG b 9 r.ops := hhG ▸ (hhE ▸ obC.putLt (by omega) : OwnX txC 1 (H.n + 7) hE b 9 r.ops).putLt (by omega)
    have oaG : OwnX setC 35 mm hG a 39 r.live := hhG ▸ (hhE ▸ oaC.putLt (by omega) : OwnX setC 35 mm hE a 39 r.live).putLt (by omega)
    repeat (first | ((with_reducible refine WDM_cons ?_; simp only [dw1]; try simp only [dw2, zrA, zrM, zrR, zrO, zrE]); simp only [core, zrA, zrS, zrM, zrL, zrE, reduceCtorEq, zrD, ziE, ziL, ziN, cored, hn, g0, g2, g3, g4, g5, LC4, lc4, c4', c2', lc2, c3', lc3, v1, v2, v3, v4, a_conM, conM_sl, hbyC, hbyD, q9, ofPV_str, sl1, sl3, ← hhE, E3, lE3, ← hhG]) | simp only [core, zrA, zrS, zrM, zrL, zrE, reduceCtorEq, zrD, ziE, ziL, ziN, cored, hn, g0, g2, g3, g4, g5, LC4, lc4, c4', c2', lc2, c3', lc3, v1, v2, v3, v4, a_conM, conM_sl, hbyC, hbyD, q9, ofPV_str, sl1, sl3, ← hhE, E3, lE3, ← hhG])
    have P2 : (hG.put (H.n + 5) .gone).at H.n = _ := (at_put_ne _ (by omega)).trans G2
    have P3 : (hG.put (H.n + 5) .gone).at (H.n + 1) = _ := (at_put_ne _ (by omega)).trans G3
    refine ⟨Gd, [.agg [a, b], .lit (.int .i64 0)], ?_, EG.put _ (by omega), a, b, rfl, (oaG.putLt (by omega)).mono (by omega), (oG.putLt (by omega)).mono (by omega)⟩
    have LP2 := ld_at (T := tabOf Tryz.prog NT0) P2
    have LP3 := ld_at (T := tabOf Tryz.prog NT0) P3
    simp only [core, zrA, zrS, zrM, zrL, zrE, reduceCtorEq, zrD, ziE, ziL, ziN, LP2, LP3, v1, v2, v3, v4]
end Go.Proofs.YtjicijhakcmifaaGreatDoor.Ex
end

section

set_option linter.unusedSimpArgs false
set_option linter.unusedVariables false
set_option maxRecDepth 10000
namespace Go.Proofs.YtjicijhakcmifaaGreatDoor.Ex
open Go
def EntI : List AE → List (List UInt8 × Int) → Prop
  | [], [] => True
  | e :: es, p :: ps => (e.key = kS p.1 ∧ e.val = .lit (.int .i64 p.2)) ∧ EntI es ps
  | _, _ => False
/-- What a key's number is. -/
def lkI (k : List UInt8) : List (List UInt8 × Int) → Option Int
  | [] => none
  | p :: ps => bif k == p.1 then some p.2 else lkI k ps
def getI (ps : List (List UInt8 × Int)) (k : List UInt8) : Int := (lkI k ps).getD 0
/-- A key gets a number. -/
def putI (k : List UInt8) (v : Int) : List (List UInt8 × Int) → List (List UInt8 × Int)
  | [] => [(k, v)]
  | p :: ps => bif k == p.1 then (k, v) :: ps else p :: putI k v ps
theorem lk_put {k k' : List UInt8} {v : Int} : ∀ ps, lkI k' (putI k v ps) = bif k' == k then some v else lkI k' ps
  | [] => by unfold putI; rfl
  | p :: ps => by
    unfold putI
    cases hk : k == p.1 with
    | true =>
      have hk := eq_of_beq hk
      subst hk
      rw [cond_true]
      unfold lkI
      cases hk' : k' == p.1 with
      | true => rfl
      | false => rfl
    | false =>
      rw [cond_false]
      unfold lkI
      rw [lk_put ps]
      cases h1 : k' == p.1 with
      | true =>
        have h2 : (k' == k) = false := beq_eq_false_iff_ne.2 fun e => by rw [← e] at hk; rw [hk] at h1; cases h1
        rw [h2]
        rfl
      | false => rfl
theorem getI_put {k k' : List UInt8} {v : Int} {ps} : getI (putI k v ps) k' = if k' = k then v else getI ps k' := by
  unfold getI
  rw [lk_put]
  by_cases h : k' = k
  · subst h; simp
  · rw [if_neg h, beq_eq_false_iff_ne.2 h]; rfl
theorem findI {k : List UInt8} : ∀ {es ps} (i : Nat), EntI es ps → (findA .string (kS k) es i = some none ∧ lkI k ps = none ∧ putI k 0 ps = ps ++ [(k, 0)]) ∨
    ∃ j n, findA .string (kS k) es i = some (some (i + j, .lit (.int .i64 n))) ∧ lkI k ps = some n ∧ ∀ v, EntI (es.modify j fun e => { e with key := kS k, val := .lit (.int .i64 v) }) (putI k v ps)
  | [], [], i, _ => .inl ⟨rfl, rfl, rfl⟩
  | e :: es, p :: ps, i, h => by
    obtain ⟨⟨h1, h2⟩, h3⟩ := h
    cases hk : k == p.1 with
    | true =>
      refine .inr ⟨0, p.2, ?_, ?_, fun v => ?_⟩
      · unfold findA
        rw [h1, same_kS, hk, h2]
        rfl
      · unfold lkI; rw [hk]; rfl
      · unfold putI
        rw [hk, List.modify_zero_cons]
        exact ⟨⟨rfl, rfl⟩, h3⟩
    | false =>
      rcases findI (k := k) (i + 1) h3 with ⟨a, b, c⟩ | ⟨j, n, a, b, c⟩
      · refine .inl ⟨?_, ?_, ?_⟩
        · unfold findA
          rw [h1, same_kS, hk]
          exact a
        · unfold lkI; rw [hk]; exact b
        · unfold putI
          rw [hk, cond_false, c]
          rfl
      · refine .inr ⟨j + 1, n, ?_, ?_, fun v => ?_⟩
        · unfold findA
          rw [h1, same_kS, hk]
          simp only
          rw [a]
          congr 3
          omega
        · unfold lkI; rw [hk]; exact b
        · unfold putI
          rw [hk, cond_false, List.modify_succ_cons]
          exact ⟨⟨h1, h2⟩, c v⟩
  | [], _ :: _, _, h => h.elim
  | _ :: _, [], _, h => h.elim
theorem putI_no {k : List UInt8} {v : Int} : ∀ {ps}, lkI k ps = none → putI k v ps = ps ++ [(k, v)]
  | [], _ => rfl
  | p :: ps, h => by
    unfold lkI at h
    cases hk : k == p.1 with
    | true => rw [hk] at h; cases h
    | false =>
      rw [hk, cond_false] at h
      unfold putI
      rw [hk, cond_false, putI_no h]
      rfl
theorem EntI.snoc {k : List UInt8} {v : Int} {c : Nat} : ∀ {es ps}, EntI es ps → EntI (es ++ [{ key := kS k, val := .lit (.int .i64 v), born := c }]) (ps ++ [(k, v)])
  | [], [], _ => ⟨⟨rfl, rfl⟩, trivial⟩
  | e :: es, p :: ps, h => ⟨h.1, EntI.snoc h.2⟩
  | [], _ :: _, h => h.elim
  | _ :: _, [], h => h.elim
section
variable {T : TT} {t kt et : TypeId} {h : AH} {b : Nat} {es : List AE} {c : Nat} {ps : List (List UInt8 × Int)}
theorem look_I (k : List UInt8) (hu : und T t = some (.map kt et)) (hi : und T kt = some .string) (hz : zeroT T et = some (.lit (.int .i64 0))) (hb : h.at b = some (.map es c)) (hE : EntI es ps) :
    lookupA T h t (.mp b) (.lit (.string ⟨k.toArray⟩)) false = some (.lit (.int .i64 (getI ps k))) := by
  have f := findT_str (es := es) (k := k) hu hi
  unfold kS at f
  rcases findI (k := k) 0 hE with ⟨a, a2, -⟩ | ⟨j, n, a, a2, -⟩
  all_goals
    unfold kS at a
    unfold lookupA getI
    simp only [keyOf, entsA, hb, elemT, hu, f, a, a2, hz]
    rfl
theorem upd_I (k : List UInt8) (v : Int) (hu : und T t = some (.map kt et)) (hi : und T kt = some .string) (hb : h.at b = some (.map es c)) (hE : EntI es ps) :
    ∃ es' c', updateA T h t (.mp b) (.lit (.string ⟨k.toArray⟩)) (.lit (.int .i64 v)) = some (h.put b (.map es' c')) ∧ EntI es' (putI k v ps) := by
  have f := findT_str (es := es) (k := k) hu hi
  unfold kS at f
  rcases findI (k := k) 0 hE with ⟨a, a2, -⟩ | ⟨j, n, a, a2, a3⟩
  · unfold kS at a
    refine ⟨es ++ [{ key := kS k, val := .lit (.int .i64 v), born := c }], c + 1, ?_, by rw [putI_no a2]; exact hE.snoc⟩
    unfold updateA
    simp only [keyOf, hb, f, a]
    rfl
  · unfold kS at a
    refine ⟨_, c, ?_, a3 v⟩
    unfold updateA
    simp only [keyOf, hb, f, a, Nat.zero_add]
    rfl
end
end Go.Proofs.YtjicijhakcmifaaGreatDoor.Ex
end

section

set_option linter.unusedSimpArgs false
set_option linter.unusedVariables false
set_option maxRecDepth 10000
namespace Go.Proofs.YtjicijhakcmifaaGreatDoor.Ex
open Go
theorem find_filter {n m : List UInt8} (h : ¬ n = m) : ∀ l : List SetD, (l.filter fun y => !(y.name == m)).find? (fun x => x.name == n) = l.find? fun x => x.name == n
  | [] => rfl
  | x :: r => by
    rw [List.filter_cons]
    cases hx : x.name == m with
    | true =>
      have hn : (x.name == n) = false := beq_eq_false_iff_ne.2 fun e => h (by rw [← e, eq_of_beq hx])
      rw [List.find?_cons, hn]
      exact find_filter h r
    | false =>
      simp only [Bool.not_false, if_true, List.find?_cons]
      rw [find_filter h r]
theorem find_insS {s : SetD} {n : List UInt8} : ∀ l : List SetD, (insS s l).find? (fun x => x.name == n) = if n = s.name then some s else l.find? fun x => x.name == n
  | [] => by
    unfold insS
    by_cases h : n = s.name
    · rw [if_pos h, List.find?_cons, h]; simp
    · rw [if_neg h, List.find?_cons, beq_eq_false_iff_ne.2 fun e => h e.symm]
  | x :: r => by
    unfold insS
    cases hl : ltS x.name s.name with
    | true =>
      rw [cond_true, List.find?_cons, List.find?_cons, find_insS r]
      by_cases h : n = s.name
      · have hx : (x.name == n) = false := beq_eq_false_iff_ne.2 fun e => lt_ne hl (e.trans h)
        rw [hx, if_pos h]
      · rw [if_neg h, if_neg h]
    | false =>
      rw [cond_false, List.find?_cons]
      by_cases h : n = s.name
      · rw [if_pos h, h]; simp
      · rw [if_neg h, beq_eq_false_iff_ne.2 fun e => h e.symm]
        exact find_filter h _
theorem find_del {m n : List UInt8} (l : List SetD) : (l.filter fun y => !(y.name == m)).find? (fun x => x.name == n) = if n = m then none else l.find? fun x => x.name == n := by
  by_cases h : n = m
  · rw [if_pos h, List.find?_eq_none]
    intro y hy
    have := (List.mem_filter.1 hy).2
    rw [h]
    simpa using this
  · rw [if_neg h, find_filter h]
theorem find_lt {n : List UInt8} : ∀ {l : List SetD}, (l.find? fun x => x.name == n).isSome = true → (l.filter fun y => !(y.name == n)).length + 1 ≤ l.length
  | x :: r, h => by
    rw [List.filter_cons]
    rw [List.find?_cons] at h
    cases hx : x.name == n with
    | true =>
      have := List.length_filter_le (fun y : SetD => !(y.name == n)) r
      simp only [Bool.not_true, Bool.false_eq_true, if_false, List.length_cons]
      omega
    | false =>
      rw [hx] at h
      have := find_lt h
      simp only [Bool.not_false, if_true, List.length_cons]
      omega
theorem Right.commit {r : RootD} {s : SetD} (h : Right r) (he : (commitF r s).2 = 0) : commitF r s = (⟨insS s r.live, r.ops.filter fun x => !(x == s.id)⟩, 0) ∧ Right ⟨insS s r.live, r.ops.filter fun x => !(x == s.id)⟩ := by
  have hc := chk_iff.2 h
  unfold commitF at he ⊢
  rw [if_pos hc] at he ⊢
  split at he
  case isFalse => cases he
  rename_i h1
  rw [if_pos h1]
  split at he
  case isFalse => cases he
  rename_i h2
  rw [if_pos h2]
  split at he
  case isFalse => cases he
  rename_i h3
  rw [if_pos h3]
  split at he
  case isTrue => cases he
  rename_i h4
  rw [if_neg h4]
  refine ⟨rfl, ?_⟩
  have hio : s.id ∈ r.ops := by
    obtain ⟨x, hx, hq⟩ := List.any_eq_true.1 h3
    rw [eq_of_beq hq]; exact hx
  have hf : findF r s.name = r.live.find? fun x => x.name == s.name := by unfold findF; rw [if_pos hc]
  have hp := insS_perm s h.pL
  have hmem : ∀ x, x ∈ insS s r.live → x ∈ r.live ∨ x = s := fun x hx => by
    rcases List.mem_append.1 (hp.mem_iff.1 hx) with hx | hx
    · exact .inl (List.mem_filter.1 hx).1
    · exact .inr (List.mem_singleton.1 hx)
  refine ⟨Nat.le_trans (List.length_filter_le _ _) h.nO, ?_, fun x hx => h.gO x (List.mem_filter.1 hx).1, h.pO.filter _, ?_, insS_pw h.pL, ?_, ?_⟩
  · show (insS s r.live).length ≤ 16
    have := hp.length_eq
    rw [List.length_append, List.length_singleton] at this
    have hl := List.length_filter_le (fun y : SetD => !(y.name == s.name)) r.live
    have hn := h.nL
    cases hq : (findF r s.name).isSome with
    | true =>
      rw [hf] at hq
      have := find_lt hq
      omega
    | false =>
      have : ¬ 16 ≤ r.live.length := fun hh => h4 ⟨hq, hh⟩
      omega
  · intro x hx
    rcases hmem x hx with hx | rfl
    · exact h.gL x hx
    · exact ⟨h1.1, h1.2.1, h1.2.2, h2⟩
  · refine (List.Perm.pairwise_iff (fun {a b} hab e => hab e.symm) hp).2 ?_
    refine List.pairwise_append.2 ⟨h.iL.filter _, List.pairwise_singleton _ _, fun a ha b hb e => ?_⟩
    rw [List.mem_singleton.1 hb] at e
    exact h.iO a (List.mem_filter.1 ha).1 (e ▸ hio)
  · intro x hx hm
    rcases hmem x hx with hx | rfl
    · exact h.iO x hx (List.mem_filter.1 hm).1
    · have := (List.mem_filter.1 hm).2
      simp at this
theorem Right.delete' {r : RootD} {n : List UInt8} (h : Right r) (he : (deleteF r n).2 = 0) : deleteF r n = (⟨r.live.filter fun s => !(s.name == n), r.ops⟩, 0) ∧ Right ⟨r.live.filter fun s => !(s.name == n), r.ops⟩ := by
  have hc := chk_iff.2 h
  unfold deleteF at he ⊢
  rw [if_pos hc] at he ⊢
  split at he
  case isFalse => cases he
  rename_i h1
  rw [if_pos h1]
  split at he
  case isFalse => cases he
  rename_i h2
  rw [if_pos h2]
  exact ⟨rfl, h.delete⟩
theorem Right.open' {r : RootD} {id : List UInt8} (h : Right r) (he : (openF r id).2 = 0) : openF r id = (⟨r.live, insT id r.ops⟩, 0) ∧ Right ⟨r.live, insT id r.ops⟩ := by
  have hc := chk_iff.2 h
  unfold openF at he ⊢
  rw [if_pos hc] at he ⊢
  split at he
  case isFalse => cases he
  rename_i h1
  rw [if_pos h1]
  split at he
  case isTrue => cases he
  rename_i h2
  rw [if_neg h2]
  split at he
  case isTrue => cases he
  rename_i h3
  rw [if_neg h3]
  exact ⟨rfl, h.open (by simpa using h2) h1 (by omega)⟩
def names4 : List (List UInt8) := [[97], [98], [99, 46, 99], [100, 45, 100]]
def idK (k : Nat) : List UInt8 := idF 0 1 k
/-- How a root stands behind i steps, and what was told of each name. -/
structure Gr (i : Nat) (r : RootD) (ps : List (List UInt8 × Int)) : Prop where
  right : Right r
  io : ∀ x ∈ r.ops, ∃ k, k < 30 ∧ x = idK k
  il : ∀ s ∈ r.live, (∃ k, k < 30 ∧ s.id = idK k) ∧ s.name ∈ names4 ∧ s.sha = (fun _ => 0) ∧ 0 ≤ s.size ∧ s.size < i
  fd : ∀ n ∈ names4, getI ps n = match r.live.find? (fun s => s.name == n) with
    | some s => s.size + 1
    | none => 0
theorem Gr.zero : Gr 0 root0 [] :=
  ⟨⟨by decide, by decide, fun x hx => by simp [root0] at hx, .nil, fun s hs => by simp [root0] at hs, .nil, .nil, fun s hs => by simp [root0] at hs⟩, fun x hx => by simp [root0] at hx, fun s hs => by simp [root0] at hs, fun n _ => rfl⟩
theorem Gr.le {i j : Nat} {r : RootD} {ps} (h : Gr i r ps) (hij : i ≤ j) : Gr j r ps :=
  ⟨h.right, h.io, fun s hs => ⟨(h.il s hs).1, (h.il s hs).2.1, (h.il s hs).2.2.1, (h.il s hs).2.2.2.1, by have := (h.il s hs).2.2.2.2; omega⟩, h.fd⟩
theorem Gr.open {i k : Nat} {r : RootD} {ps} (h : Gr i r ps) (hk : k < 30) (he : (openF r (idK k)).2 = 0) : Gr i (openF r (idK k)).1 ps := by
  obtain ⟨e, hR⟩ := h.right.open' he
  rw [e]
  exact ⟨hR, fun x hx => by rcases insT_mem.1 hx with hx | rfl; exact h.io x hx; exact ⟨k, hk, rfl⟩, h.il, h.fd⟩
theorem Gr.close {i : Nat} {r : RootD} {id : List UInt8} {ps} (h : Gr i r ps) (he : (closeF r id).2 = true) : Gr i (closeF r id).1 ps := by
  unfold closeF at he ⊢
  split at he
  case isFalse => cases he
  rename_i h1
  rw [if_pos h1]
  exact ⟨h.right.close, fun x hx => h.io x (List.mem_filter.1 hx).1, h.il, h.fd⟩
theorem Gr.commit {i k : Nat} {n : List UInt8} {r : RootD} {ps} (h : Gr i r ps) (hk : k < 30) (hn : n ∈ names4) (he : (commitF r ⟨n, idK k, i, fun _ => 0⟩).2 = 0) : Gr (i + 1) (commitF r ⟨n, idK k, i, fun _ => 0⟩).1 (putI n (i + 1) ps) := by
  obtain ⟨e, hR⟩ := h.right.commit he
  rw [e]
  have hp := insS_perm ⟨n, idK k, i, fun _ => 0⟩ h.right.pL
  refine ⟨hR, fun x hx => h.io x (List.mem_filter.1 hx).1, fun s hs => ?_, fun m hm => ?_⟩
  · rcases List.mem_append.1 (hp.mem_iff.1 hs) with hs | hs
    · have := h.il s (List.mem_filter.1 hs).1
      exact ⟨this.1, this.2.1, this.2.2.1, this.2.2.2.1, by have := this.2.2.2.2; omega⟩
    · rw [List.mem_singleton.1 hs]
      exact ⟨⟨k, hk, rfl⟩, hn, rfl, Int.natCast_nonneg _, by show (i : Int) < _; omega⟩
  · rw [getI_put, find_insS]
    by_cases hmn : m = n
    · rw [if_pos hmn, if_pos hmn]
    · rw [if_neg hmn, if_neg hmn]
      exact h.fd m hm
theorem Gr.delete {i : Nat} {n : List UInt8} {r : RootD} {ps} (h : Gr i r ps) (hn : n ∈ names4) (he : (deleteF r n).2 = 0) : Gr i (deleteF r n).1 (putI n 0 ps) := by
  obtain ⟨e, hR⟩ := h.right.delete' he
  rw [e]
  refine ⟨hR, h.io, fun s hs => h.il s (List.mem_filter.1 hs).1, fun m hm => ?_⟩
  rw [getI_put]
  show _ = match (r.live.filter fun s => !(s.name == n)).find? (fun s => s.name == m) with
    | some s => s.size + 1
    | none => 0
  rw [find_del]
  by_cases hmn : m = n
  · rw [if_pos hmn, if_pos hmn]
  · rw [if_neg hmn, if_neg hmn]
    exact h.fd m hm
theorem Gr.undeleted {i : Nat} {n : List UInt8} {r : RootD} {ps} (h : Gr i r ps) (hn : n ∈ names4) (hz : getI ps n = 0) : Gr i r (putI n 0 ps) :=
  ⟨h.right, h.io, h.il, fun m hm => by
    rw [getI_put]
    by_cases hmn : m = n
    · rw [if_pos hmn]
      subst hmn
      have := h.fd m hm
      rw [hz] at this
      exact this
    · rw [if_neg hmn]; exact h.fd m hm⟩
theorem good4 : ∀ n ∈ names4, mGood n = true := by decide
theorem len4 : ∀ n ∈ names4, n.length ≤ 3 := by decide
/-- A delete is taken just if the name was told. -/
theorem Gr.dels {i : Nat} {n : List UInt8} {r : RootD} {ps} (h : Gr i r ps) (hn : n ∈ names4) : ((deleteF r n).2 = 0 ↔ 0 < getI ps n) ∧ 0 ≤ getI ps n := by
  have hc := chk_iff.2 h.right
  have hf : findF r n = r.live.find? fun x => x.name == n := by unfold findF; rw [if_pos hc]
  have hfd := h.fd n hn
  unfold deleteF
  rw [if_pos hc, if_pos (good4 n hn), hf, hfd]
  cases hq : r.live.find? (fun x => x.name == n) with
  | none => simp
  | some s =>
    have := (h.il s (List.mem_of_find?_eq_some hq)).2.2.2.1
    simp
    omega
theorem Gr.live4 {i : Nat} {r : RootD} {ps} (h : Gr i r ps) : r.live.length ≤ 4 := by
  have h1 : (r.live.map (·.name)).Nodup := List.pairwise_map.2 (h.right.pL.imp fun h => lt_ne h)
  have h2 : ∀ x ∈ r.live.map (·.name), x ∈ names4 := fun x hx => by
    obtain ⟨s, hs, rfl⟩ := List.mem_map.1 hx
    exact (h.il s hs).2.1
  have := List.Nodup.length_le_of_subset h1 h2
  rw [List.length_map] at this
  exact this
end Go.Proofs.YtjicijhakcmifaaGreatDoor.Ex
end

section

set_option linter.unusedSimpArgs false
set_option linter.unusedVariables false
set_option maxRecDepth 10000
namespace Go.Proofs.YtjicijhakcmifaaGreatDoor.Ex
open Go
variable {P : Program}
theorem pur_bind {α β : Type} (s : Sem α) (f : α → Sem β) : pur P (s >>= f) = match pur P s with
    | some (.ok a) => pur P (f a)
    | some (.pan v) => some (.pan v)
    | none => none := by
  induction s with
  | pure a => rfl
  | program k ih => exact ih P
  | mark m k ih => exact ih
  | halt o => cases o <;> rfl
  | _ => rfl
theorem pur_program : pur P program = some (.ok P) := rfl
theorem pur_pure {α : Type} (a : α) : pur P (pure a) = some (.ok a) := rfl
theorem pur_ite {α : Type} {c : Prop} [Decidable c] (a b : Sem α) : pur P (if c then a else b) = if c then pur P a else pur P b := by split <;> rfl
theorem pur_und {t : TypeId} {d : TypeDesc} (h : P.underlying t = some d) : pur P (underlying t) = some (.ok d) := by
  show pur P (match P.underlying t with | some d => pure d | none => stuck "no such type") = _
  rw [h]
  rfl
theorem pur_equalIn_struct (d : Nat) (t : TypeId) (xs ys : Array Value) (ht : P.underlying t = some (.struct (P.fieldsOf t))) (hp : P.stoodInHeld t = false) : pur P (Op.equalIn (d + 1) t (.agg xs) (.agg ys)) = pur P (Op.eqFields d xs ys (P.fieldsOf t).toList) := by
  simp only [Op.equalIn, pur_bind, pur_und ht, pur_program, hp, Bool.false_eq_true, if_false]
  rw [← Array.forIn_toList]
  generalize (P.fieldsOf t).toList = fs
  clear ht
  induction fs with
  | nil => simp [Op.eqFields, pur_pure]
  | cons f fs ih =>
    simp only [List.forIn_cons, Op.eqFields, pur_bind, pur_ite]
    by_cases hn : f.name ≠ "_"
    · simp only [if_pos hn]
      cases pur P (part f.type xs f.offset) with
      | none => rfl
      | some r1 =>
        cases r1 with
        | pan v => rfl
        | ok a =>
          simp only
          cases pur P (part f.type ys f.offset) with
          | none => rfl
          | some r2 =>
            cases r2 with
            | pan v => rfl
            | ok b =>
              simp only
              cases pur P (Op.equalIn d f.type a b) with
              | none => rfl
              | some r3 =>
                cases r3 with
                | pan v => rfl
                | ok r =>
                  cases r
                  · simp [pur_pure]
                  · simp only [Bool.not_true, Bool.false_eq_true, if_false, pur_pure]
                    exact ih
    · simp only [if_neg hn, pur_pure]
      exact ih
theorem pur_equalIn_int (d : Nat) (t : TypeId) (k k' : IntKind) (a b : Int) (h : P.underlying t = some (.int k')) : pur P (Op.equalIn (d + 1) t (.int k a) (.int k b)) = some (.ok (a == b)) := by
  simp only [Op.equalIn, pur_bind, pur_und h]
  simp [pur_pure]
variable {d : Option Tmp} {ty : TypeId} {ps : String} {af : Array Edge} {g : Option (Nat × Bool)} {f : TypeId} {t : TM} {h : AH}
end Go.Proofs.YtjicijhakcmifaaGreatDoor.Ex
end

section

set_option linter.unusedSimpArgs false
set_option linter.unusedVariables false
set_option maxRecDepth 10000
set_option maxHeartbeats 4000000
namespace Go.Proofs.YtjicijhakcmifaaGreatDoor.Ex
open Go
theorem srtS_insS {s : SetD} {l d : List SetD} (h : l.Pairwise (fun a b => ltS a.name b.name = true)) (hd : d = l.filter fun y => !(y.name == s.name)) : srtS (d ++ [s]) = insS s l := by
  subst hd
  refine sortS_eq h (List.mergeSort_perm _ _) ?_
  have := List.pairwise_mergeSort (le := fun x y : SetD => !ltS y.name x.name) (fun a b c h h' => by rw [Bool.not_eq_true'] at *; exact le_tr h h') (fun a b => by rcases le_tot a.name b.name with h | h <;> unfold leS at h <;> simp [h]) ((l.filter fun y => !(y.name == s.name)) ++ [s])
  exact this.imp fun {a b} h => by rw [Bool.not_eq_true'] at h; exact h
theorem nodup_ins {s : SetD} {l d : List SetD} (h : l.Pairwise (fun a b => ltS a.name b.name = true)) (hd : d = l.filter fun y => !(y.name == s.name)) : ((d ++ [s]).map (·.name)).Nodup := by
  subst hd
  rw [List.map_append, List.map_singleton]
  refine List.nodup_append.2 ⟨List.pairwise_map.2 ((h.filter _).imp fun h => lt_ne h), List.pairwise_singleton _ _, fun a ha b hb e => ?_⟩
  obtain ⟨y, hy, rfl⟩ := List.mem_map.1 ha
  rw [List.mem_singleton.1 hb] at e
  have := (List.mem_filter.1 hy).2
  rw [e] at this
  simp at this
theorem Commit_x {F : Nat → Prop} {H : AH} {vl vo : AV} {r : RootD} {s : SetD} (hl : IsSl RSet F H vl r.live) (ho : IsSl RTx F H vo r.ops) (hr : RLen r) (hid : s.id.length ≤ 1100000) (hnm : s.name.length ≤ 4611686018427387000) :
    WC Tryz.prog (tabOf Tryz.prog NT0) S0 6 [.agg [vl, vo], .agg (setC s)] H fun v h' => Ext H.n H h' ∧ ∃ u, v = .tup [u, .lit (.int .i64 (commitF r s).2)] ∧ OwnQ 39 H.n h' u (commitF r s).1 := by
  refine WC_fn Tryz.func6 rfl rfl ?_
  have l1 := hl.one
  have l2 := hl.isSl
  have l3 := hl.lenD
  have o1 := ho.one
  have o2 := ho.isSl
  have o3 := ho.lenD
  obtain ⟨m, hM⟩ : ∃ m, m = r.live.length := ⟨_, rfl⟩
  rw [← hM] at l3
  obtain ⟨hp, hhp⟩ : ∃ hp, hp = H.push (.cells [vl, vo] 27) := ⟨_, rfl⟩
  have EP : Ext H.n H hp := hhp ▸ (Ext.refl _ _).push _ (Nat.le_refl _)
  have nP : hp.n = H.n + 1 := by rw [hhp, n_push]
  have P0 : hp.at H.n = some (.cells [vl, vo] 27) := hhp ▸ at_push_n _ _
  obtain ⟨hw, hhw⟩ : ∃ hw, hw = hp.push (.cells (setC s) 39) := ⟨_, rfl⟩
  have EB0 : Ext hp.n hp hw := hhw ▸ (Ext.refl _ _).push _ (Nat.le_refl _)
  have nB : hw.n = H.n + 2 := by rw [hhw, n_push, nP]
  have B0 : hw.at hp.n = some (.cells (setC s) 39) := hhw ▸ at_push_n _ _
  have PB := (EB0.2 _ (at_lt P0)).trans P0
  obtain ⟨hs, hhs⟩ : ∃ hs, hs = hw.push (.cells [.lit (.slice none 0 0), .lit (.slice none 0 0)] 27) := ⟨_, rfl⟩
  have ES : Ext hw.n hw hs := hhs ▸ (Ext.refl _ _).push _ (Nat.le_refl _)
  have nS : hs.n = H.n + 3 := by rw [hhs, n_push, nB]
  have S0 : hs.at hw.n = some (.cells [.lit (.slice none 0 0), .lit (.slice none 0 0)] 27) := hhs ▸ at_push_n _ _
  have P1 := (ES.2 _ (at_lt PB)).trans PB
  have B1 := (ES.2 _ (at_lt B0)).trans B0
  have E0 := EP.trans ((EB0.trans (ES.mono EB0.1)).mono EP.1)
  have LP := ld_at (T := tabOf Tryz.prog NT0) P1
  have lP := at_lt P1
  have bad : ∀ h4 : AH, Ext H.n H h4 → h4.at hw.n = some (.cells [.lit (.slice none 0 0), .lit (.slice none 0 0)] 27) →
      ∃ h5, h5 = h4.put hw.n (.cells [.lit (.slice none 0 0), .lit (.slice none 0 0)] 27) ∧ Ext H.n H h5 ∧ (∀ e i, loadA (tabOf Tryz.prog NT0) h5 e hw.n i = ldL (tabOf Tryz.prog NT0) e [.lit (.slice none 0 0), .lit (.slice none 0 0)] i) ∧ hw.n < h5.n := fun h4 e4 a4 =>
    ⟨_, rfl, e4.put _ (by omega), ld_at (at_put_same _ (at_lt a4)), by rw [n_put]; exact at_lt a4⟩
  have LB0 := ld_at (T := tabOf Tryz.prog NT0) B1
  have lB0 := at_lt B1
  unfold setC at hhw ⊢
  simp only [core, zrA, zrS, zrM, zrL, zrE, reduceCtorEq, zrD, ziE, ziL, ziN, Tryz.ntmps6, l1, l2, l3, o1, o2, o3, ← hhp, ← hhw, ← hhs, LP, lP]
  refine (CheckRoot_x (hl.ext E0 (Nat.le_refl _)) (ho.ext E0 (Nat.le_refl _)) hr.o hr.s).mono ?_
  rintro _ h2 ⟨E2, rfl⟩
  have m2 := E2.1
  have E02 := E0.trans (E2.mono E0.1)
  have P2 := (E2.2 _ lP).trans P1
  have B2 := (E2.2 _ lB0).trans B1
  have S2 := (E2.2 _ (at_lt S0)).trans S0
  have lS2 := at_lt S2
  cases hk : decide (chkF r = 0) with
  | false =>
    have hb : (chkF r != 0) = true := by rw [bne, beq_eq_false_iff_ne.2 (of_decide_eq_false hk)]; rfl
    have hkn : commitF r s = (root0, chkF r) := by unfold commitF; rw [if_neg (of_decide_eq_false hk)]
    obtain ⟨h5, hh5, E5, L5, l5⟩ := bad h2 E02 S2
    simp only [core, zrA, zrS, zrM, zrL, zrE, reduceCtorEq, zrD, ziE, ziL, ziN, aundef, hb, hkn, S2, lS2, ← hh5, L5, l5]
    exact ⟨E5, _, rfl, OwnQ.zero⟩
  | true =>
  have hc := of_decide_eq_true hk
  have hb : (chkF r != 0) = false := by rw [hc]; rfl
  obtain ⟨n1, n2⟩ := chk_len hc
  have LP2 := ld_at (T := tabOf Tryz.prog NT0) P2
  have lP2 := at_lt P2
  have hRt := chk_iff.1 hc
  have LB2 := ld_at (T := tabOf Tryz.prog NT0) B2
  have lB2 := at_lt B2
  unfold setC at LB2
  simp only [core, zrA, zrS, zrM, zrL, zrE, reduceCtorEq, zrD, ziE, ziL, ziN, aundef, hb, LP2, lP2, LB2, lB2, o1, o2, o3, l1, l2, l3]
  refine (Find_x (hl.ext E02 (Nat.le_refl _)) (ho.ext E02 (Nat.le_refl _)) hr).mono ?_
  rintro _ h3 ⟨E3, rfl⟩
  have m3 := E3.1
  have E03 := E02.trans (E3.mono E02.1)
  have P3 := (E3.2 _ lP2).trans P2
  have B3 := (E3.2 _ lB2).trans B2
  have S3 := (E3.2 _ lS2).trans S2
  obtain ⟨y, hy⟩ : ∃ y, y = (findF r s.name).getD set0 := ⟨_, rfl⟩
  rw [← hy]
  obtain ⟨h4, hh4⟩ : ∃ h4, h4 = h3.push (.cells (setC y) 39) := ⟨_, rfl⟩
  have E4 : Ext h3.n h3 h4 := hh4 ▸ (Ext.refl _ _).push _ (Nat.le_refl _)
  have n4 : h4.n = h3.n + 1 := by rw [hh4, n_push]
  have E04 := E03.trans (E4.mono E03.1)
  have P4 := (E4.2 _ (at_lt P3)).trans P3
  have B4 := (E4.2 _ (at_lt B3)).trans B3
  have S4 := (E4.2 _ (at_lt S3)).trans S3
  have LP4 := ld_at (T := tabOf Tryz.prog NT0) P4
  have lP4 := at_lt P4
  have LB4 := ld_at (T := tabOf Tryz.prog NT0) B4
  have lB4 := at_lt B4
  have lS4 := at_lt S4
  unfold setC at hh4 LB4 ⊢
  simp only [core, zrA, zrS, zrM, zrL, zrE, reduceCtorEq, zrD, ziE, ziL, ziN, aundef, ← hh4, LP4, lP4, LB4, lB4, o1, o2, o3, l1, l2, l3]
  refine (goodId_x hid).mono ?_
  rintro _ h5 ⟨E5, rfl⟩
  have m5 := E5.1
  have E05 := E04.trans (E5.mono E04.1)
  have P5 := (E5.2 _ lP4).trans P4
  have B5 := (E5.2 _ lB4).trans B4
  have S5 := (E5.2 _ lS4).trans S4
  have lS5 := at_lt S5
  have LP5 := ld_at (T := tabOf Tryz.prog NT0) P5
  have lP5 := at_lt P5
  have LB5 := ld_at (T := tabOf Tryz.prog NT0) B5
  have lB5 := at_lt B5
  unfold setC at LB5
  have bad22 : ¬ (goodIdF s.id = true ∧ 0 ≤ s.size ∧ s.size ≤ 2147483647) → commitF r s = (root0, 22) := fun hh => by unfold commitF; rw [if_pos hc, if_neg hh]
  cases hg : goodIdF s.id with
  | false =>
    have hkn := bad22 fun hh => by rw [hg] at hh; cases hh.1
    obtain ⟨h6, hh6, E6, L6, l6⟩ := bad h5 E05 S5
    simp only [core, zrA, zrS, zrM, zrL, zrE, reduceCtorEq, zrD, ziE, ziL, ziN, aundef, hg, hkn, S5, lS5, ← hh6, L6, l6]
    exact ⟨E6, _, rfl, OwnQ.zero⟩
  | true =>
  cases q2 : decide (s.size < 0) with
  | true =>
    have hkn := bad22 fun hh => by have := of_decide_eq_true q2; omega
    obtain ⟨h6, hh6, E6, L6, l6⟩ := bad h5 E05 S5
    simp only [core, zrA, zrS, zrM, zrL, zrE, reduceCtorEq, zrD, ziE, ziL, ziN, aundef, hg, q2, hkn, LB5, lB5, S5, lS5, ← hh6, L6, l6]
    exact ⟨E6, _, rfl, OwnQ.zero⟩
  | false =>
  cases q3 : decide (2147483647 < s.size) with
  | true =>
    have hkn := bad22 fun hh => by have := of_decide_eq_true q3; omega
    obtain ⟨h6, hh6, E6, L6, l6⟩ := bad h5 E05 S5
    simp only [core, zrA, zrS, zrM, zrL, zrE, reduceCtorEq, zrD, ziE, ziL, ziN, aundef, hg, q2, q3, hkn, LB5, lB5, S5, lS5, ← hh6, L6, l6]
    exact ⟨E6, _, rfl, OwnQ.zero⟩
  | false =>
  have hok : goodIdF s.id = true ∧ 0 ≤ s.size ∧ s.size ≤ 2147483647 := ⟨hg, by have := of_decide_eq_false q2; omega, by have := of_decide_eq_false q3; omega⟩
  simp only [core, zrA, zrS, zrM, zrL, zrE, reduceCtorEq, zrD, ziE, ziL, ziN, aundef, hg, q2, q3, LP5, lP5, LB5, lB5, o1, o2, o3, l1, l2, l3]
  refine (mgood_x hnm).mono ?_
  rintro _ h6 ⟨rfl, q5⟩
  replace q5 := q5.symm
  subst q5
  cases hn : mGood s.name with
  | false =>
    have hkn : commitF r s = (root0, 36) := by unfold commitF; rw [if_pos hc, if_pos hok, if_neg (by rw [hn]; decide)]
    obtain ⟨h6, hh6, E6, L6, l6⟩ := bad h5 E05 S5
    simp only [core, zrA, zrS, zrM, zrL, zrE, reduceCtorEq, zrD, ziE, ziL, ziN, aundef, hn, hkn, S5, lS5, ← hh6, L6, l6]
    exact ⟨E6, _, rfl, OwnQ.zero⟩
  | true =>
  simp only [core, zrA, zrS, zrM, zrL, zrE, reduceCtorEq, zrD, ziE, ziL, ziN, aundef, hn, LP5, lP5, LB5, lB5, o1, o2, o3, l1, l2, l3]
  refine (containsT_x (ho.ext E05 (Nat.le_refl _)) (by omega)).mono ?_
  rintro _ h6 ⟨E6, rfl⟩
  have m6 := E6.1
  have E06 := E05.trans (E6.mono E05.1)
  have P6 := (E6.2 _ lP5).trans P5
  have B6 := (E6.2 _ lB5).trans B5
  have S6 := (E6.2 _ lS5).trans S5
  have LP6 := ld_at (T := tabOf Tryz.prog NT0) P6
  have lP6 := at_lt P6
  have LB6 := ld_at (T := tabOf Tryz.prog NT0) B6
  have lB6 := at_lt B6
  have lS6 := at_lt S6
  unfold setC at LB6
  cases hm : r.ops.any (fun x => s.id == x) with
  | false =>
    have hkn : commitF r s = (root0, 125) := by unfold commitF; rw [if_pos hc, if_pos hok, if_pos hn, if_neg (by rw [hm]; decide)]
    obtain ⟨h7, hh7, E7, L7, l7⟩ := bad h6 E06 S6
    simp only [core, zrA, zrS, zrM, zrL, zrE, reduceCtorEq, zrD, ziE, ziL, ziN, aundef, hkn, S6, lS6, ← hh7, L7, l7]
    exact ⟨E7, _, rfl, OwnQ.zero⟩
  | true =>
  have hcs : ((findF r s.name).isSome = false ∧ (16 : Int) ≤ (m : Int)) ∨ ((findF r s.name).isSome = true ∧ (findF r s.name).isSome = true) ∨ ((findF r s.name).isSome = false ∧ decide ((16 : Int) ≤ (m : Int)) = false) := by
    cases (findF r s.name).isSome with
    | true => exact .inr (.inl ⟨rfl, rfl⟩)
    | false => by_cases h : (16 : Int) ≤ (m : Int); exact .inl ⟨rfl, h⟩; exact .inr (.inr ⟨rfl, decide_eq_false h⟩)
  rcases hcs with ⟨hf, h16⟩ | hgo
  · have hkn : commitF r s = (root0, 28) := by unfold commitF; rw [if_pos hc, if_pos hok, if_pos hn, if_pos hm, if_pos ⟨hf, by omega⟩]
    have h16' : decide ((16 : Int) ≤ (m : Int)) = true := decide_eq_true h16
    obtain ⟨h8, hh8, E8, L8, l8⟩ := bad h6 E06 S6
    simp only [core, zrA, zrS, zrM, zrL, zrE, reduceCtorEq, zrD, ziE, ziL, ziN, aundef, hf, h16', hkn, LP6, lP6, l1, l2, l3, o1, o2, o3, S6, lS6, ← hh8, L8, l8]
    exact ⟨E8, _, rfl, OwnQ.zero⟩
  have hkn : commitF r s = (⟨insS s r.live, r.ops.filter fun x => !(x == s.id)⟩, 0) := by
    unfold commitF
    rw [if_pos hc, if_pos hok, if_pos hn, if_pos hm, if_neg]
    rintro ⟨h1, h2⟩
    rcases hgo with ⟨h3, -⟩ | ⟨-, h3⟩
    · rw [h3] at h1; cases h1
    · have := of_decide_eq_false h3; omega
  have hcl : closeF r s.id = (⟨r.live, r.ops.filter fun x => !(x == s.id)⟩, true) := by unfold closeF; rw [if_pos ⟨hc, hm⟩]
  obtain ⟨ops, hops⟩ : ∃ ops, ops = r.ops.filter fun x => !(x == s.id) := ⟨_, rfl⟩
  rw [← hops] at hcl hkn
  have hRc : Right ⟨r.live, ops⟩ := hops ▸ hRt.close
  have hCc := chk_iff.2 hRc
  have hLc : RLen ⟨r.live, ops⟩ := ⟨fun x hx => hr.o x (List.mem_filter.1 (hops ▸ hx)).1, hr.s⟩
  have step1 : ∀ (h : AH) (Q : AV → AH → Prop), (∀ v h', (Ext h.n h h' ∧ ∃ a b, v = .tup [.agg [a, b], .lit (.bool true)] ∧ OwnX setC 35 h.n h' a 39 r.live ∧ OwnX txC 1 h.n h' b 9 ops) → Q v h') → Ext H.n H h → WC Tryz.prog (tabOf Tryz.prog NT0) Ex.S0 8 [.agg [vl, vo], .lit (.string ⟨s.id.toArray⟩)] h Q := fun h Q hq e => by
    refine (Close_x (hl.ext e (Nat.le_refl _)) (ho.ext e (Nat.le_refl _)) hr).mono ?_
    rintro v h' ⟨e1, u, rfl, a, b, rfl, oa, ob⟩
    rw [hcl] at oa ob ⊢
    exact hq _ _ ⟨e1, a, b, rfl, oa, ob⟩
  have hfc : findF ⟨r.live, ops⟩ s.name = findF r s.name := by unfold findF; rw [if_pos hCc, if_pos hc]
  have hdl : (findF r s.name).isSome = true → deleteF ⟨r.live, ops⟩ s.name = (⟨r.live.filter fun y => !(y.name == s.name), ops⟩, 0) := fun hh => by
    unfold deleteF
    rw [if_pos hCc, if_pos hn, if_pos (by rw [hfc]; exact hh)]
  have hnf : (findF r s.name).isSome = false → r.live = r.live.filter fun y => !(y.name == s.name) := fun hh => by
    unfold findF at hh
    rw [if_pos hc] at hh
    refine (List.filter_eq_self.2 fun y hy => ?_).symm
    have h0 := Option.not_isSome_iff_eq_none.1 (by rw [hh]; decide)
    have := List.find?_eq_none.1 h0 y hy
    simpa using this
  rcases hgo with ⟨hf, hlen16⟩ | ⟨hf, hlen16⟩
  · simp only [core, zrA, zrS, zrM, zrL, zrE, reduceCtorEq, zrD, ziE, ziL, ziN, aundef, hf, hlen16, LP6, lP6, LB6, lB6, l1, l2, l3, o1, o2, o3]
    refine step1 _ _ (fun v h7 hh => ?_) E06
    obtain ⟨E7, a, b, rfl, oa, ob⟩ := hh
    have m7 := E7.1
    have E07 := E06.trans (E7.mono E06.1)
    have P7 := (E7.2 _ lP6).trans P6
    have B7 := (E7.2 _ lB6).trans B6
    have S7 := (E7.2 _ lS6).trans S6
    have lP7 := at_lt P7
    have a1 := oa.one
    have a2 := oa.isSl
    have b1 := ob.one
    have b2 := ob.isSl
    obtain ⟨h8, hh8⟩ : ∃ h8, h8 = h7.put H.n (.cells [a, b] 27) := ⟨_, rfl⟩
    have n8 : h8.n = h7.n := by rw [hh8, n_put]
    have E08 : Ext H.n H h8 := hh8 ▸ E07.put _ (Nat.le_refl _)
    have P8 : h8.at H.n = some (.cells [a, b] 27) := hh8 ▸ at_put_same _ lP7
    have B8 : h8.at hp.n = _ := (hh8 ▸ at_put_ne _ (by omega) : h8.at hp.n = h7.at hp.n).trans B7
    have S8 : h8.at hw.n = _ := (hh8 ▸ at_put_ne _ (by omega) : h8.at hw.n = h7.at hw.n).trans S7
    have oa8 : OwnX setC 35 h6.n h8 a 39 r.live := hh8 ▸ oa.putLt (by omega)
    have ob8 : OwnX txC 1 h6.n h8 b 9 ops := hh8 ▸ ob.putLt (by omega)
    have LP8 := ld_at (T := tabOf Tryz.prog NT0) P8
    have lP8 := at_lt P8
    have LB8 := ld_at (T := tabOf Tryz.prog NT0) B8
    have lB8 := at_lt B8
    unfold setC at LB8
    simp only [core, zrA, zrS, zrM, zrL, zrE, reduceCtorEq, zrD, ziE, ziL, ziN, aundef, hf, a1, a2, b1, b2, P7, lP7, ← hh8, LP8, lP8, LB8, lB8]
    refine (Delete_x (r := ⟨r.live, ops⟩) (F := fun _ => True) (oa8.toSl flatSet fun _ _ => trivial) (ob8.toSl flatTx fun _ _ => trivial) hLc hnm).mono ?_
    rintro v h9 ⟨E9, u, rfl, hQ⟩
    rw [hdl hf] at hQ ⊢
    obtain ⟨a', b', rfl, oa, ob⟩ := hQ
    have m9 := E9.1
    have E09 := E08.trans (E9.mono E08.1)
    have P9 := (E9.2 _ lP8).trans P8
    have B9 := (E9.2 _ lB8).trans B8
    have S9 := (E9.2 _ (at_lt S8)).trans S8
    have lP9 := at_lt P9
    have a1 := oa.one
    have a2 := oa.isSl
    have b1 := ob.one
    have b2 := ob.isSl
    obtain ⟨g0, hg0⟩ : ∃ g0, g0 = h9.put H.n (.cells [a', b'] 27) := ⟨_, rfl⟩
    have m0 : g0.n = h9.n := by rw [hg0, n_put]
    have F0 : Ext H.n H g0 := hg0 ▸ E09.put _ (Nat.le_refl _)
    have P0' : g0.at H.n = some (.cells [a', b'] 27) := hg0 ▸ at_put_same _ lP9
    have B0' : g0.at hp.n = _ := (hg0 ▸ at_put_ne _ (by omega) : g0.at hp.n = h9.at hp.n).trans B9
    have S0' : g0.at hw.n = _ := (hg0 ▸ at_put_ne _ (by omega) : g0.at hw.n = h9.at hw.n).trans S9
    have oa0 : OwnX setC 35 h6.n g0 a' 39 (r.live.filter fun y => !(y.name == s.name)) := (hg0 ▸ oa.putLt (by omega) : OwnX setC 35 h8.n g0 a' 39 _).mono (by omega)
    have ob0 : OwnX txC 1 h6.n g0 b' 9 ops := (hg0 ▸ ob.putLt (by omega) : OwnX txC 1 h8.n g0 b' 9 _).mono (by omega)
    have LP0 := ld_at (T := tabOf Tryz.prog NT0) P0'
    have lP0 := at_lt P0'
    have LB0' := ld_at (T := tabOf Tryz.prog NT0) B0'
    have lB0' := at_lt B0'
    unfold setC at LB0'
    obtain ⟨d, hd⟩ : ∃ d, d = r.live.filter fun y => !(y.name == s.name) := ⟨_, rfl⟩
    rw [← hd] at oa0
    simp only [core, zrA, zrS, zrM, zrL, zrE, reduceCtorEq, zrD, ziE, ziL, ziN, aundef, a1, a2, b1, b2, P9, lP9, ← hg0, LP0, lP0, LB0', lB0']
    have hdn : d.length ≤ 16 := by rw [hd]; exact Nat.le_trans (List.length_filter_le _ _) n2
    have hsrt := srtS_insS hRt.pL hd
    have hnd := nodup_ins hRt.pL hd
    have lS0' := at_lt S0'
    have e5 : Ext g0.n g0 (g0.push (.cells (setC s) 39)) := (Ext.refl _ _).push _ (Nat.le_refl _)
    have happ := fun cap => snocK (T := tabOf Tryz.prog NT0) (t := 24) (y := s) (cap := cap) flatSet (oa0.ext e5 (Nat.le_refl _)) (by kernel_rfl) (by kernel_rfl) (zv := .agg (setC set0)) (by kernel_rfl) (by' := 72) (by kernel_rfl) rfl (by decide) (at_push_n g0 _) (by omega) (by omega) (by rw [n_push]; omega)
    have e5' := e5
    unfold setC at happ e5'
    refine WOp_app (happ _) ?_
    rintro w k1 ⟨ow, E1, K1⟩
    have E01 := (e5'.mono (by omega : h6.n ≤ g0.n)).trans E1
    have P1' := (E01.2 _ (by omega)).trans P0'
    have B1' := (E01.2 _ (by omega)).trans B0'
    have S1' := (E01.2 _ (by omega)).trans S0'
    have lP1 := at_lt P1'
    have w1 := ow.toX.one
    have w2 := ow.toX.isSl
    have ob1 : OwnX txC 1 h6.n k1 b' 9 ops := ob0.keep fun c off n cap hv => (K1 c (by rw [n_push]; have := (ob0.blk hv).1; omega) (ob0.sep oa0 (by decide) hv)).trans (e5'.2 _ (ob0.blk hv).1)
    obtain ⟨p, p0, rfl, p2⟩ := ow
    obtain ⟨k2, hk2⟩ : ∃ k2, k2 = k1.put H.n (.cells [.sl p 0 (d ++ [s]).length (.un 35), b'] 27) := ⟨_, rfl⟩
    have F2 : Ext H.n H k2 := hk2 ▸ (F0.trans (E01.mono (by omega))).put _ (Nat.le_refl _)
    have P2' : k2.at H.n = some (.cells [.sl p 0 (d ++ [s]).length (.un 35), b'] 27) := hk2 ▸ at_put_same _ lP1
    have S2' : k2.at hw.n = _ := (hk2 ▸ at_put_ne _ (by omega) : k2.at hw.n = k1.at hw.n).trans S1'
    have R2 : k2.at p = _ := (hk2 ▸ at_put_ne _ (by omega) : k2.at p = k1.at p).trans p2
    have ob2 : OwnX txC 1 h6.n k2 b' 9 ops := hk2 ▸ ob1.putLt (by omega)
    have LP2' := ld_at (T := tabOf Tryz.prog NT0) P2'
    have lP2' := at_lt P2'
    simp only [core, zrA, zrS, zrM, zrL, zrE, reduceCtorEq, zrD, ziE, ziL, ziN, P1', lP1, b1, b2, w1, w2, ← hk2, LP2', lP2']
    refine sortF_c R2 (by rw [List.length_append]; simp) (by rw [List.length_append, List.length_singleton]; omega) hnd ?_
    rw [hsrt]
    have lR2 := at_lt R2
    obtain ⟨k3, hk3⟩ : ∃ k3, k3 = k2.put p (.cells ((insS s r.live).flatMap setC) 39) := ⟨_, rfl⟩
    have F3 : Ext H.n H k3 := hk3 ▸ F2.put _ (by omega)
    have P3' : k3.at H.n = _ := (hk3 ▸ at_put_ne _ (by omega) : k3.at H.n = k2.at H.n).trans P2'
    have S3' : k3.at hw.n = _ := (hk3 ▸ at_put_ne _ (by omega) : k3.at hw.n = k2.at hw.n).trans S2'
    have R3 : k3.at p = some (.cells ((insS s r.live).flatMap setC) 39) := hk3 ▸ at_put_same _ lR2
    have ob3 : OwnX txC 1 h6.n k3 b' 9 ops := ob2.keep fun c off n cap hv => hk3 ▸ at_put_ne _ fun hh => by
      obtain ⟨-, -, l, hl⟩ := ob2.blk hv
      rw [← hh, R2] at hl
      cases hl
    have LP3' := ld_at (T := tabOf Tryz.prog NT0) P3'
    have lP3' := at_lt P3'
    have lS3' := at_lt S3'
    obtain ⟨k4, hk4⟩ : ∃ k4, k4 = k3.put hw.n (.cells [.sl p 0 (d ++ [s]).length (.un 35), b'] 27) := ⟨_, rfl⟩
    have F4 : Ext H.n H k4 := hk4 ▸ F3.put _ (by omega)
    have S4' : k4.at hw.n = some (.cells [.sl p 0 (d ++ [s]).length (.un 35), b'] 27) := hk4 ▸ at_put_same _ lS3'
    have R4 : k4.at p = _ := (hk4 ▸ at_put_ne _ (by omega) : k4.at p = k3.at p).trans R3
    have ob4 : OwnX txC 1 h6.n k4 b' 9 ops := hk4 ▸ ob3.putLt (by omega)
    have LS4 := ld_at (T := tabOf Tryz.prog NT0) S4'
    have lS4' := at_lt S4'
    simp only [core, zrA, zrS, zrM, zrL, zrE, reduceCtorEq, zrD, ziE, ziL, ziN, ← hk3, LP3', lP3', b1, b2, w1, w2, S3', lS3', ← hk4, LS4, lS4']
    rw [hkn]
    exact ⟨F4, _, rfl, _, b', rfl, .inr (.inr ⟨p, [], by omega, by rw [← hsrt]; unfold srtS; rw [(List.mergeSort_perm _ _).length_eq], by rw [List.append_nil]; exact R4⟩), ob4.mono (by omega)⟩
  · simp only [core, zrA, zrS, zrM, zrL, zrE, reduceCtorEq, zrD, ziE, ziL, ziN, aundef, hf, hlen16, LP6, lP6, LB6, lB6, l1, l2, l3, o1, o2, o3]
    refine step1 _ _ (fun v h7 hh => ?_) E06
    obtain ⟨E7, a, b, rfl, oa, ob⟩ := hh
    have m7 := E7.1
    have E07 := E06.trans (E7.mono E06.1)
    have P7 := (E7.2 _ lP6).trans P6
    have B7 := (E7.2 _ lB6).trans B6
    have S7 := (E7.2 _ lS6).trans S6
    have lP7 := at_lt P7
    have a1 := oa.one
    have a2 := oa.isSl
    have b1 := ob.one
    have b2 := ob.isSl
    obtain ⟨h8, hh8⟩ : ∃ h8, h8 = h7.put H.n (.cells [a, b] 27) := ⟨_, rfl⟩
    have n8 : h8.n = h7.n := by rw [hh8, n_put]
    have E08 : Ext H.n H h8 := hh8 ▸ E07.put _ (Nat.le_refl _)
    have P8 : h8.at H.n = some (.cells [a, b] 27) := hh8 ▸ at_put_same _ lP7
    have B8 : h8.at hp.n = _ := (hh8 ▸ at_put_ne _ (by omega) : h8.at hp.n = h7.at hp.n).trans B7
    have S8 : h8.at hw.n = _ := (hh8 ▸ at_put_ne _ (by omega) : h8.at hw.n = h7.at hw.n).trans S7
    have oa8 : OwnX setC 35 h6.n h8 a 39 r.live := hh8 ▸ oa.putLt (by omega)
    have ob8 : OwnX txC 1 h6.n h8 b 9 ops := hh8 ▸ ob.putLt (by omega)
    have LP8 := ld_at (T := tabOf Tryz.prog NT0) P8
    have lP8 := at_lt P8
    have LB8 := ld_at (T := tabOf Tryz.prog NT0) B8
    have lB8 := at_lt B8
    unfold setC at LB8
    obtain ⟨g0, hg0⟩ : ∃ g0, g0 = h8 := ⟨_, rfl⟩
    obtain ⟨a', ha'⟩ : ∃ a', a' = a := ⟨_, rfl⟩
    obtain ⟨b', hb'⟩ : ∃ b', b' = b := ⟨_, rfl⟩
    have m0 : g0.n = h8.n := by rw [hg0]
    simp only [core, zrA, zrS, zrM, zrL, zrE, reduceCtorEq, zrD, ziE, ziL, ziN, aundef, hf, a1, a2, b1, b2, P7, lP7, ← hh8, LP8, lP8, LB8, lB8]
    rw [← ha', ← hb'] at P8
    rw [← hg0] at E08 P8 B8 S8 oa8 ob8
    rw [← ha'] at oa8 a1 a2
    rw [← hb'] at ob8 b1 b2
    rw [← hg0, ← ha']
    have F0 := E08
    have P0' := P8
    have B0' := B8
    have S0' := S8
    have oa0 := oa8
    have ob0 := ob8
    obtain ⟨d, hd0⟩ : ∃ d, d = r.live := ⟨_, rfl⟩
    have hd : d = r.live.filter fun y => !(y.name == s.name) := hd0.trans (hnf hf)
    rw [← hd0] at oa0
    have LP0 := ld_at (T := tabOf Tryz.prog NT0) P0'
    have lP0 := at_lt P0'
    have hdn : d.length ≤ 16 := by rw [hd]; exact Nat.le_trans (List.length_filter_le _ _) n2
    have hsrt := srtS_insS hRt.pL hd
    have hnd := nodup_ins hRt.pL hd
    have lS0' := at_lt S0'
    have e5 : Ext g0.n g0 (g0.push (.cells (setC s) 39)) := (Ext.refl _ _).push _ (Nat.le_refl _)
    have happ := fun cap => snocK (T := tabOf Tryz.prog NT0) (t := 24) (y := s) (cap := cap) flatSet (oa0.ext e5 (Nat.le_refl _)) (by kernel_rfl) (by kernel_rfl) (zv := .agg (setC set0)) (by kernel_rfl) (by' := 72) (by kernel_rfl) rfl (by decide) (at_push_n g0 _) (by omega) (by omega) (by rw [n_push]; omega)
    have e5' := e5
    unfold setC at happ e5'
    refine WOp_app (happ _) ?_
    rintro w k1 ⟨ow, E1, K1⟩
    have E01 := (e5'.mono (by omega : h6.n ≤ g0.n)).trans E1
    have P1' := (E01.2 _ (by omega)).trans P0'
    have B1' := (E01.2 _ (by omega)).trans B0'
    have S1' := (E01.2 _ (by omega)).trans S0'
    have lP1 := at_lt P1'
    have w1 := ow.toX.one
    have w2 := ow.toX.isSl
    have ob1 : OwnX txC 1 h6.n k1 b' 9 ops := ob0.keep fun c off n cap hv => (K1 c (by rw [n_push]; have := (ob0.blk hv).1; omega) (ob0.sep oa0 (by decide) hv)).trans (e5'.2 _ (ob0.blk hv).1)
    obtain ⟨p, p0, rfl, p2⟩ := ow
    obtain ⟨k2, hk2⟩ : ∃ k2, k2 = k1.put H.n (.cells [.sl p 0 (d ++ [s]).length (.un 35), b'] 27) := ⟨_, rfl⟩
    have F2 : Ext H.n H k2 := hk2 ▸ (F0.trans (E01.mono (by omega))).put _ (Nat.le_refl _)
    have P2' : k2.at H.n = some (.cells [.sl p 0 (d ++ [s]).length (.un 35), b'] 27) := hk2 ▸ at_put_same _ lP1
    have S2' : k2.at hw.n = _ := (hk2 ▸ at_put_ne _ (by omega) : k2.at hw.n = k1.at hw.n).trans S1'
    have R2 : k2.at p = _ := (hk2 ▸ at_put_ne _ (by omega) : k2.at p = k1.at p).trans p2
    have ob2 : OwnX txC 1 h6.n k2 b' 9 ops := hk2 ▸ ob1.putLt (by omega)
    have LP2' := ld_at (T := tabOf Tryz.prog NT0) P2'
    have lP2' := at_lt P2'
    simp only [core, zrA, zrS, zrM, zrL, zrE, reduceCtorEq, zrD, ziE, ziL, ziN, P1', lP1, b1, b2, w1, w2, ← hk2, LP2', lP2']
    refine sortF_c R2 (by rw [List.length_append]; simp) (by rw [List.length_append, List.length_singleton]; omega) hnd ?_
    rw [hsrt]
    have lR2 := at_lt R2
    obtain ⟨k3, hk3⟩ : ∃ k3, k3 = k2.put p (.cells ((insS s r.live).flatMap setC) 39) := ⟨_, rfl⟩
    have F3 : Ext H.n H k3 := hk3 ▸ F2.put _ (by omega)
    have P3' : k3.at H.n = _ := (hk3 ▸ at_put_ne _ (by omega) : k3.at H.n = k2.at H.n).trans P2'
    have S3' : k3.at hw.n = _ := (hk3 ▸ at_put_ne _ (by omega) : k3.at hw.n = k2.at hw.n).trans S2'
    have R3 : k3.at p = some (.cells ((insS s r.live).flatMap setC) 39) := hk3 ▸ at_put_same _ lR2
    have ob3 : OwnX txC 1 h6.n k3 b' 9 ops := ob2.keep fun c off n cap hv => hk3 ▸ at_put_ne _ fun hh => by
      obtain ⟨-, -, l, hl⟩ := ob2.blk hv
      rw [← hh, R2] at hl
      cases hl
    have LP3' := ld_at (T := tabOf Tryz.prog NT0) P3'
    have lP3' := at_lt P3'
    have lS3' := at_lt S3'
    obtain ⟨k4, hk4⟩ : ∃ k4, k4 = k3.put hw.n (.cells [.sl p 0 (d ++ [s]).length (.un 35), b'] 27) := ⟨_, rfl⟩
    have F4 : Ext H.n H k4 := hk4 ▸ F3.put _ (by omega)
    have S4' : k4.at hw.n = some (.cells [.sl p 0 (d ++ [s]).length (.un 35), b'] 27) := hk4 ▸ at_put_same _ lS3'
    have R4 : k4.at p = _ := (hk4 ▸ at_put_ne _ (by omega) : k4.at p = k3.at p).trans R3
    have ob4 : OwnX txC 1 h6.n k4 b' 9 ops := hk4 ▸ ob3.putLt (by omega)
    have LS4 := ld_at (T := tabOf Tryz.prog NT0) S4'
    have lS4' := at_lt S4'
    simp only [core, zrA, zrS, zrM, zrL, zrE, reduceCtorEq, zrD, ziE, ziL, ziN, ← hk3, LP3', lP3', b1, b2, w1, w2, S3', lS3', ← hk4, LS4, lS4']
    rw [hkn]
    exact ⟨F4, _, rfl, _, b', rfl, .inr (.inr ⟨p, [], by omega, by rw [← hsrt]; unfold srtS; rw [(List.mergeSort_perm _ _).length_eq], by rw [List.append_nil]; exact R4⟩), ob4.mono (by omega)⟩
end Go.Proofs.YtjicijhakcmifaaGreatDoor.Ex
end
