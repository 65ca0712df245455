/- Part 13 of the proof: IntervalBackWalk. -/
import Derived.Test.YtkgbeihcepociaaM12
section

set_option linter.unusedSimpArgs false
set_option linter.unusedVariables false
set_option maxRecDepth 10000
set_option maxHeartbeats 4000000
namespace Go.Proofs.Ytkgbeihcepociaa.Ex
open Go Go.RowKit Go.ChangeShapes Go.WideShapes Go.ChangeAt
theorem put_flat {z j : Nat} {v : AV} (hj : j < z) : ∀ {L : List (List AV)} {i : Nat} {c : List AV}, (∀ x ∈ L, x.length = z) → L[i]? = some c → put L.flatten (i * z + j) [v] = some ((L.set i (c.set j v)).flatten) := fun {L} => by
  induction L with
  | nil => intro i c _ h; cases h
  | cons a r ih =>
    intro i c hz hc
    have ha : a.length = z := hz a (by simp)
    cases i with
    | zero =>
      cases hc
      unfold put
      rw [if_pos (by rw [List.flatten_cons, List.length_append]; show 0 * z + j + 1 ≤ _; omega)]
      rw [List.flatten_cons, Nat.zero_mul, Nat.zero_add]
      show some (List.take j (a ++ r.flatten) ++ [v] ++ List.drop (j + 1) (a ++ r.flatten)) = some ((a.set j v) ++ r.flatten)
      rw [List.take_append_of_le_length (by omega), List.drop_append_of_le_length (by omega), List.set_eq_take_append_cons_drop, if_pos (by omega)]
      simp
    | succ i =>
      have := ih (i := i) (c := c) (fun x hx => hz x (by simp [hx])) hc
      obtain ⟨h1, h2⟩ := put_some this
      have e : (i + 1) * z + j = a.length + (i * z + j) := by rw [Nat.succ_mul]; omega
      unfold put
      rw [e, if_pos (by rw [List.flatten_cons, List.length_append]; simp only [List.length_singleton] at h1 ⊢; omega)]
      congr 1
      rw [List.flatten_cons, List.take_length_add_append, show a.length + (i * z + j) + [v].length = a.length + (i * z + j + [v].length) by omega, List.drop_length_add_append]
      show _ = a ++ (r.set i (c.set j v)).flatten
      rw [h2]
      simp [List.append_assoc]
theorem Els.setE {α : Type} {R : Rep α} {F : Nat → Prop} {h : AH} {L : List (List AV)} {xs : List α} {i : Nat} {c : List AV} {x : α} (he : Els R F h L xs) (hc : R.is F h c x) : Els R F h (L.set i c) (xs.set i x) := by
  refine ⟨by rw [List.length_set, List.length_set]; exact he.1, fun k c' x' h1 h2 => ?_⟩
  rw [List.getElem?_set] at h1 h2
  by_cases hk : i = k
  · rw [if_pos hk] at h1 h2
    split at h1
    · split at h2
      · cases h1; cases h2; exact hc
      · cases h2
    · cases h1
  · rw [if_neg hk] at h1 h2
    exact he.2 k c' x' h1 h2
theorem IsSl.ofUn {α : Type} {R : Rep α} {F : Nat → Prop} {h : AH} {p : Nat} {e : TypeId} {L : List (List AV)} {xs : List α} {n : Nat} (hat : h.at p = some (.cells L.flatten e)) (hF : F p) (he : Els R F h L xs) (hn : xs.length = n) : IsSl R F h (.sl p 0 n (.un R.z)) xs := by
  subst hn
  have hl := flat_len (z := R.z) he.lens
  refine .mk ⟨he.lens, .inr ⟨p, 0, .un R.z, L.flatten, by rw [he.1], by unfold getR; rw [hat], ?_⟩⟩ (fun b off n cap e => by cases e; exact hF) (fun b off n cap e => by cases e; rfl) he
  unfold cut
  rw [if_pos (by rw [hl]; omega), List.drop_zero, ← hl, List.take_length]
theorem own_maps {F : Nat → Prop} {H : AH} {v : AV} {ms : List MapD} {p : Nat} (hv : IsSl RMp F H v ms) (hl : Sm 88 ms) (hp : H.at p = some (.cells [] 31)) :
    ∃ s' h', appendA (tabOf Try.prog NT0) H 33 33 (.sl p 0 0 (.kn 0)) v = some (s', h') ∧ ((ms = [] ∧ s' = .sl p 0 0 (.kn 0) ∧ h' = H) ∨ (ms ≠ [] ∧ ∃ L, s' = .sl H.n 0 ms.length (.un 5) ∧ h' = H.push (.cells L.flatten 31) ∧ Els RMp F H L ms)) := by
  obtain ⟨L, h1, h2, h3, h4⟩ := hv.out
  have e0 := h4.1
  unfold Sm at hl
  rcases append_fresh (T := tabOf Try.prog NT0) (h := H) (t := 33) (tx := 33) (e := 31) (z := 5) (by' := 88) (zv := .agg [.lit (.int .i64 0), .lit (.slice none 0 0), .lit (.slice none 0 0), .lit (.slice none 0 0), .lit (.int .i64 0)]) (M := L) (p := p) (x := v) (by kernel_rfl) (by kernel_rfl) (by kernel_rfl) (by kernel_rfl) (by kernel_rfl) rfl (by decide) (by decide) hp
      h1.src h1.len h4.lens h4.ones (by omega) (by rw [e0]; omega) with ⟨hM, ha⟩ | ⟨hM, ha⟩
  · subst hM
    obtain rfl : ms = [] := List.eq_nil_of_length_eq_zero (by rw [← e0]; rfl)
    exact ⟨_, _, ha, .inl ⟨rfl, rfl, rfl⟩⟩
  · refine ⟨_, _, ha, .inr ⟨fun hh => hM (List.eq_nil_of_length_eq_zero (by rw [e0, hh]; rfl)), L, by rw [e0], rfl, h4⟩⟩
theorem intervalBack_m {F : Nat → Prop} {H : AH} {v : AV} {ms : List MapD} (pool seed la lb : Int) (hv : IsSl RMp F H v ms) (hF : ∀ b, F b → b < H.n) (hl : Sm 88 ms) (hok : ∀ m ∈ ms, OkMp m) :
    WC Try.prog (tabOf Try.prog NT0) S0 10 [v, pgV pool seed, .agg [.lit (.int .i64 la), .lit (.int .i64 lb)]] H fun r h' => r = .lit (.bool true) := by
  refine WC_fn Try.func10 rfl rfl ?_
  have s1 := hv.isSl
  have s2 := hv.lenD
  have hl' := hl
  unfold Sm at hl'
  simp only [core, Nat.reduceAdd, Nat.reduceSub, Nat.reduceMul, Nat.reduceLT, Nat.reduceEqDiff, reduceCtorEq, Nat.reduceLeDiff, Int.reduceLE, Int.reduceLT, Int.reduceToNat, Try.ntmps10, pgV, s1, s2]
  obtain ⟨h1, hh1⟩ : ∃ h1, h1 = (H.push (pgB pool seed)).push (.cells [.lit (.int .i64 la), .lit (.int .i64 lb)] 74) := ⟨_, rfl⟩
  have E1 : Ext H.n H h1 := hh1 ▸ ((Ext.refl _ _).push _ (Nat.le_refl _)).push _ (by rw [n_push]; omega)
  have P1 : h1.at H.n = some (pgB pool seed) := hh1 ▸ (at_push_lt _ (by rw [n_push]; omega)).trans (at_push_n _ _)
  have B1 : h1.at (H.n + 1) = some (.cells [.lit (.int .i64 la), .lit (.int .i64 lb)] 74) := hh1 ▸ at_push_n _ _
  unfold pgB at hh1
  rw [← hh1]
  clear hh1
  have lp1 := at_lt P1
  have lb1 := at_lt B1
  refine (few_x (hv.ext E1 (Nat.le_refl _)) hl).mono ?_
  rintro _ h2 ⟨e2, bf, rfl⟩
  have E2 := E1.step e2
  have P2 := (e2.2 _ lp1).trans P1
  have B2 := (e2.2 _ lb1).trans B1
  have lp2 := at_lt P2
  have lb2 := at_lt B2
  cases bf with
  | false =>
    simp only [core, Nat.reduceAdd, Nat.reduceSub, Nat.reduceMul, Nat.reduceLT, Nat.reduceEqDiff, reduceCtorEq, Nat.reduceLeDiff, Int.reduceLE, Int.reduceLT, Int.reduceToNat]
    refine lives15_x.mono ?_
    rintro _ h3 ⟨e3, rfl⟩
    simp only [core, Nat.reduceAdd, Nat.reduceSub, Nat.reduceMul, Nat.reduceLT, Nat.reduceEqDiff, reduceCtorEq, Nat.reduceLeDiff, Int.reduceLE, Int.reduceLT, Int.reduceToNat]
  | true =>
  simp only [core, Nat.reduceAdd, Nat.reduceSub, Nat.reduceMul, Nat.reduceLT, Nat.reduceEqDiff, reduceCtorEq, Nat.reduceLeDiff, Int.reduceLE, Int.reduceLT, Int.reduceToNat, s1, s2]
  obtain ⟨h3, hh3⟩ : ∃ h3, h3 = h2.push (.cells [] 31) := ⟨_, rfl⟩
  have e3 : Ext h2.n h2 h3 := hh3 ▸ (Ext.refl _ _).push _ (Nat.le_refl _)
  have A3 : h3.at h2.n = some (.cells [] 31) := hh3 ▸ at_push_n _ _
  rw [← hh3]
  clear hh3
  have E3 := E2.step e3
  have hv3 := hv.ext E3 (Nat.le_refl _)
  refine WOp_app (own_maps hv3 hl A3) ?_
  rintro s h4 hs
  obtain ⟨q, hq0, z1, z2, t1, t2, t3, e4, ⟨L0, hat0, hE0⟩, hback⟩ : ∃ q, h2.n ≤ q ∧ slB s = q ∧ slO s = 0 ∧ Ex.isSl s = true ∧ Ex.lenD s = ms.length ∧ s.one = true ∧ Ext h3.n h3 h4 ∧ (∃ L, h4.at q = some (.cells L.flatten 31) ∧ Els RMp F h3 L ms) ∧
      (∀ h L ms', h.at q = some (.cells L.flatten 31) → Els RMp (fun _ => True) h L ms' → ms'.length = ms.length → IsSl RMp (fun _ => True) h s ms') := by
    rcases hs with ⟨rfl, rfl, rfl⟩ | ⟨hne, L, rfl, rfl, hE⟩
    · exact ⟨h2.n, Nat.le_refl _, rfl, rfl, rfl, rfl, rfl, Ext.refl _ _, ⟨[], A3, .nil⟩, fun h L ms' a b c => IsSl.ofAt a trivial b c⟩
    · exact ⟨h3.n, e3.1, rfl, rfl, rfl, rfl, rfl, (Ext.refl _ _).push _ (Nat.le_refl _), ⟨L, at_push_n _ _, hE⟩, fun h L ms' a b c => IsSl.ofUn a trivial b c⟩
  have E4 := E3.step e4
  have hq4 := at_lt hat0
  simp only [core, Nat.reduceAdd, Nat.reduceSub, Nat.reduceMul, Nat.reduceLT, Nat.reduceEqDiff, reduceCtorEq, Nat.reduceLeDiff, Int.reduceLE, Int.reduceLT, Int.reduceToNat, t1, t2, t3]
  refine WB_for ms.length (fun i t h => (h.n = h4.n ∧ (∀ b, b ≠ q → h.at b = h4.at b) ∧ ∃ L, h.at q = some (.cells L.flatten 31) ∧ Els RMp F h3 L (ownN ms i)) ∧ t.n = 133 ∧ t.get 4 = .ptr H.n 0 ∧ t.get 5 = .ptr (H.n + 1) 0 ∧ t.get 7 = s ∧ t.get 29 = s ∧ t.get 30 = .lit (.int .i64 ms.length) ∧ t.get 31 = .lit (.int .i64 i)) ?_ ?_ _ _ ?_
  · rintro i t h hlt hc ⟨⟨j1, j2, L, hat, hE⟩, hn, g4, g5, g7, g29, g30, g31⟩ ih
    obtain ⟨m, hm⟩ : ∃ m, ms[i]? = some m := ⟨_, List.getElem?_eq_getElem hlt⟩
    have hw := wrap_succ hlt (by omega)
    have hmi : (ownN ms i)[i]? = some m := by rw [ownN_get, hm]; simp
    obtain ⟨c, hci, hcm⟩ := hE.get hmi
    obtain ⟨vo, vp, vb, rfl, m1, m2, m3, m4, m5⟩ := RMp_is.1 hcm
    have hput : put L.flatten (i * 5 + 0) [.lit (.int .i64 (i : Int))] = some ((L.set i [.lit (.int .i64 (i : Int)), vo, vp, vb, .lit (.int .i64 m.leaf)]).flatten) := put_flat (by decide) hE.lens hci
    have hput1 : put L.flatten (i * 5) [.lit (.int .i64 (i : Int))] = some ((L.set i [.lit (.int .i64 (i : Int)), vo, vp, vb, .lit (.int .i64 m.leaf)]).flatten) := hput
    have hput2 : put L.flatten (0 + i * 5) [.lit (.int .i64 (i : Int))] = some ((L.set i [.lit (.int .i64 (i : Int)), vo, vp, vb, .lit (.int .i64 m.leaf)]).flatten) := by rw [Nat.zero_add]; exact hput
    have lat := at_lt hat
    simp only [corem, WB_cond_s, put, ldL, WB_label, List.nil_append, List.drop_zero, List.take_zero, Nat.reduceAdd, Nat.reduceSub, Nat.reduceMul, Nat.reduceLT, Nat.reduceEqDiff, reduceCtorEq, Nat.reduceLeDiff, Int.reduceLE, Int.reduceLT, Int.reduceToNat, hn, g4, g5, g7, g29, g30, g31, hlt, hc, hw, t1, t2, z1, z2, hat, lat, hput, hput1, hput2, -put]
    refine ih _ _ ⟨⟨by rw [n_put]; exact j1, fun b hb => (at_put_ne _ (fun h => hb h.symm)).trans (j2 b hb), _, at_put_same _ lat, ?_⟩, ?_⟩
    · rw [ownN_succ hm]
      exact hE.setE (RMp_is.2 ⟨vo, vp, vb, rfl, m1, m2, m3, (show I64 (i : Int) from ⟨by omega, by omega⟩), m5⟩)
    · simp only [core, Nat.reduceAdd, Nat.reduceSub, Nat.reduceMul, Nat.reduceLT, Nat.reduceEqDiff, reduceCtorEq, Nat.reduceLeDiff, Int.reduceLE, Int.reduceLT, Int.reduceToNat, hn, g4, g5, g7, g29, g30, g31]
  · rintro t h hc ⟨⟨j1, j2, L, hat, hE⟩, hn, g4, g5, g7, g29, g30, g31⟩
    have hE : Els RMp F h3 L (ownD ms) := hE
    have hgen : ∀ b, b < H.n → h.at b = H.at b := fun b hb => (j2 b (by have := E2.1; omega)).trans (E4.2 b hb)
    have hEX : Els RMp (fun _ => True) h L (ownD ms) := hE.lift fun b hb _ => ⟨(hgen b (hF b hb)).trans (E3.2 b (hF b hb)).symm, trivial⟩
    have hvO := hback h L (ownD ms) hat hEX ownD_len
    have EX : Ext H.n H h := ⟨by rw [j1]; exact E4.1, hgen⟩
    have PX := (j2 H.n (by omega)).trans ((e4.2 _ (by have := e3.1; omega)).trans ((e3.2 _ lp2).trans P2))
    have BX := (j2 (H.n + 1) (by omega)).trans ((e4.2 _ (by have := e3.1; omega)).trans ((e3.2 _ lb2).trans B2))
    have hlO : Sm 88 (ownD ms) := by unfold Sm; rw [ownD_len]; exact hl'
    have hokO := ownD_ok hok
    have lpX := at_lt PX
    have lbX := at_lt BX
    have LPX := ld_at (T := tabOf Try.prog NT0) PX
    unfold pgB at LPX
    simp only [core, Nat.reduceAdd, Nat.reduceSub, Nat.reduceMul, Nat.reduceLT, Nat.reduceEqDiff, reduceCtorEq, Nat.reduceLeDiff, Int.reduceLE, Int.reduceLT, Int.reduceToNat, hn, g4, g5, g7, g29, g30, g31, hc, t1, LPX, lpX]
    refine (all_x pool seed hvO hlO hokO).mono ?_
    rintro r hB ⟨eB, n0, hn0, hown⟩
    have hr := hown.toSl (F := fun _ => True) (fun _ _ => trivial) (fun _ _ => trivial)
    have hil := ivsF_len (pool := pool) (seed := seed) (ms := ownD ms)
    rw [ownD_len] at hil
    have hac := fun x hx => ivs_ok (pool := pool) (seed := seed) (ms := ownD ms) x hx
    have hrun := fun i x hx => ivs_run (pool := pool) (seed := seed) (ms := ms) (i := i) (x := x) hx
    have hun := fun i x y hx hy => ivs_unlike (pool := pool) (seed := seed) (ms := ownD ms) (i := i) (x := x) (y := y) hx hy
    have hchain := fun i r hr => runsF_chain (pool := pool) (seed := seed) (ms := ownD ms) (i := i) (r := r) hr
    have hend := runsF_end (pool := pool) (seed := seed) (ms := ownD ms)
    rw [ownD_len] at hend
    have hrl : (runsF pool seed (ownD ms)).length = (ivsF pool seed (ownD ms)).length := by unfold ivsF; rw [List.length_map]
    obtain ⟨xs, hxs⟩ : ∃ xs, xs = ivsF pool seed (ownD ms) := ⟨_, rfl⟩
    obtain ⟨rs, hrs⟩ : ∃ rs, rs = runsF pool seed (ownD ms) := ⟨_, rfl⟩
    rw [← hxs] at hr hil hac hrun hun hrl
    rw [← hrs] at hrun hchain hend hrl
    have r1 := hr.isSl
    have r2 := hr.lenD
    have PB := (eB.2 _ lpX).trans PX
    have BB := (eB.2 _ lbX).trans BX
    simp only [core, Nat.reduceAdd, Nat.reduceSub, Nat.reduceMul, Nat.reduceLT, Nat.reduceEqDiff, reduceCtorEq, Nat.reduceLeDiff, Int.reduceLE, Int.reduceLT, Int.reduceToNat, hn, g4, g5, g7, g29, g30, g31, hc, r1, r2]
    refine WB_for xs.length (fun i t h => Ext hB.n hB h ∧ t.n = 133 ∧ t.get 4 = .ptr H.n 0 ∧ t.get 5 = .ptr (H.n + 1) 0 ∧ t.get 7 = s ∧ t.get 9 = r ∧ t.get 10 = .lit (.int .i64 (nxtR rs i)) ∧ t.get 43 = r ∧ t.get 44 = .lit (.int .i64 xs.length) ∧ t.get 45 = .lit (.int .i64 i)) ?_ ?_ _ _ ?_
    · rintro i t h' hlt hc2 ⟨e5, hn, g4, g5, g7, g9, g10, g43, g44, g45⟩ ih
      obtain ⟨x, hx⟩ : ∃ x, xs[i]? = some x := ⟨_, List.getElem?_eq_getElem hlt⟩
      have hxm := List.mem_of_getElem? hx
      obtain ⟨ru, hru, -, f1, f2, f3, f4⟩ := hrun i x hx
      have hch := hchain i ru hru
      have hns := nxt_succ hru
      rw [← hch] at g10
      have hw := wrap_succ hlt (by omega)
      obtain ⟨c, hc1, hld, hld0⟩ := hr.at (T := tabOf Try.prog NT0) RIv_z hx
      obtain ⟨xa, xb, rfl, hxa, hxb, -, -⟩ := RIv_is.1 hc1
      have a1 := hxa.one
      have b1 := hxb.one
      have a2 := hxa.isSl
      have b2 := hxb.isSl
      have ldr := hr.ldE (T := tabOf Try.prog NT0) (by omega) e5
      simp only [core, Nat.reduceAdd, Nat.reduceSub, Nat.reduceMul, Nat.reduceLT, Nat.reduceEqDiff, reduceCtorEq, Nat.reduceLeDiff, Int.reduceLE, Int.reduceLT, Int.reduceToNat, hn, g4, g5, g7, g9, g10, g43, g44, g45, hlt, hc2, r1, r2, ldr, hld, hld0, a1, b1]
      obtain ⟨h6, hh6⟩ : ∃ h6, h6 = h'.push (.cells [.lit (.int .i64 x.first), .lit (.int .i64 x.last), xa, xb, .lit (.bool x.mayRw)] 65) := ⟨_, rfl⟩
      have e6 : Ext h'.n h' h6 := hh6 ▸ (Ext.refl _ _).push _ (Nat.le_refl _)
      have X6 : h6.at h'.n = some (.cells [.lit (.int .i64 x.first), .lit (.int .i64 x.last), xa, xb, .lit (.bool x.mayRw)] 65) := hh6 ▸ at_push_n _ _
      rw [← hh6]
      clear hh6
      have nx6 := at_lt X6
      have LX6 := ld_at (T := tabOf Try.prog NT0) X6
      have ee6 := e5.step e6
      have k1 : (x.first != (ru.1 : Int)) = false := by rw [f1]; exact bne_self_eq_false _
      have k2 : ¬ x.last < x.first := by omega
      have hwn : IntKind.i64.wrap (x.last + 1) = ((ru.2 : Nat) : Int) := by
        rw [show x.last + 1 = (ru.2 : Int) by omega]
        exact wrap_in (by omega) (by omega)
      have k2' : (x.last < x.first) = False := by simp only [eq_iff_iff, iff_false]; exact k2
      simp only [core, Nat.reduceAdd, Nat.reduceSub, Nat.reduceMul, Nat.reduceLT, Nat.reduceEqDiff, reduceCtorEq, Nat.reduceLeDiff, Int.reduceLE, Int.reduceLT, Int.reduceToNat, hn, g4, g5, g7, g9, g10, g43, g44, g45, LX6, nx6, k1, k2', hwn]
      rw [← hns]
      by_cases hi0 : i = 0
      · have c1 : ((0 : Int) < (i : Int)) = False := by simp only [eq_iff_iff, iff_false]; omega
        rw [WB_regionD [0, 1, 2, 3, 4, 5, 6, 7, 8, 9, 10, 11, 12, 13, 14, 15, 16, 17, 18, 19, 20, 21, 22, 23] 123665189680020954129205518635040910337434047979655796117022990324313652432841391436129244636239021178479422357089428345914660565556783923525903759044770827675933661068263424 (by kernel_rfl)]
        repeat ((with_reducible refine WDM_cons ?_; simp only [dw1]; try simp only [dw2, Nat.reduceAdd, Nat.reduceMul, Nat.reduceShiftRight, Nat.reduceMod, Nat.reduceEqDiff]); simp only [core, Nat.reduceAdd, Nat.reduceSub, Nat.reduceMul, Nat.reduceLT, Nat.reduceEqDiff, reduceCtorEq, Nat.reduceLeDiff, Int.reduceLE, Int.reduceLT, Int.reduceToNat, cored, hn, g4, g5, g7, g9, g10, g43, g44, g45, c1, hw, aundef])
        refine ih _ _ ⟨ee6, ?_⟩
        simp only [core, Nat.reduceAdd, Nat.reduceSub, Nat.reduceMul, Nat.reduceLT, Nat.reduceEqDiff, reduceCtorEq, Nat.reduceLeDiff, Int.reduceLE, Int.reduceLT, Int.reduceToNat, hn, g4, g5, g7, g9, g10, g43, g44, g45]
      have c1 : ((0 : Int) < (i : Int)) = True := by simp only [eq_iff_iff, iff_true]; omega
      obtain ⟨w, hw1⟩ : ∃ w, xs[i - 1]? = some w := ⟨_, List.getElem?_eq_getElem (by omega)⟩
      have hwlt : i - 1 < xs.length := by omega
      have hwm : IntKind.i64.wrap ((i : Int) - 1) = ((i - 1 : Nat) : Int) := (wrap_in (by omega) (by omega)).trans (by omega)
      obtain ⟨c, hc3, hldw, hldw0⟩ := hr.at (T := tabOf Try.prog NT0) RIv_z hw1
      obtain ⟨wa, wb, rfl, hwa, hwb, -, -⟩ := RIv_is.1 hc3
      have w2 := hwa.isSl
      have w3 := hwb.isSl
      have ldr6 := hr.ldE (T := tabOf Try.prog NT0) (by omega) ee6
      have hunl := hun (i - 1) w x hw1 (by rw [show i - 1 + 1 = i by omega]; exact hx)
      have hxac := hac x hxm
      rw [WB_regionD [0, 1, 2, 3, 4, 5, 6, 7, 8, 9, 10, 11, 12, 13, 14, 15, 16, 17, 18, 19, 20, 21, 22, 23] 123665189680020954129205518635040910337434047979655796117022990324313652432841391436129244636239021178479422357089428345914660565556783923525903759044770827675933661068263424 (by kernel_rfl)]
      repeat ((with_reducible refine WDM_cons ?_; simp only [dw1]; try simp only [dw2, Nat.reduceAdd, Nat.reduceMul, Nat.reduceShiftRight, Nat.reduceMod, Nat.reduceEqDiff]); simp only [core, Nat.reduceAdd, Nat.reduceSub, Nat.reduceMul, Nat.reduceLT, Nat.reduceEqDiff, reduceCtorEq, Nat.reduceLeDiff, Int.reduceLE, Int.reduceLT, Int.reduceToNat, cored, hn, g4, g5, g7, g9, g10, g43, g44, g45, c1, hw, hwm, hwlt, r1, r2, LX6, nx6, a2, b2, w2, w3, ldr6, hldw, hldw0])
      refine (ints_x (hxa.ext ee6 (Nat.le_refl _)) (hwa.ext ee6 (Nat.le_refl _)) (by omega)).mono ?_
      rintro _ h7 ⟨rfl, rfl⟩
      cases q1 : (x.acting == w.acting) with
      | false =>
        repeat ((with_reducible refine WDM_cons ?_; simp only [dw1]; try simp only [dw2, Nat.reduceAdd, Nat.reduceMul, Nat.reduceShiftRight, Nat.reduceMod, Nat.reduceEqDiff]); simp only [core, Nat.reduceAdd, Nat.reduceSub, Nat.reduceMul, Nat.reduceLT, Nat.reduceEqDiff, reduceCtorEq, Nat.reduceLeDiff, Int.reduceLE, Int.reduceLT, Int.reduceToNat, cored, hn, g4, g5, g7, g9, g10, g43, g44, g45, c1, hw, aundef])
        refine ih _ _ ⟨ee6, ?_⟩
        simp only [core, Nat.reduceAdd, Nat.reduceSub, Nat.reduceMul, Nat.reduceLT, Nat.reduceEqDiff, reduceCtorEq, Nat.reduceLeDiff, Int.reduceLE, Int.reduceLT, Int.reduceToNat, hn, g4, g5, g7, g9, g10, g43, g44, g45]
      | true =>
        rw [q1, Bool.true_and] at hunl
        repeat ((with_reducible refine WDM_cons ?_; simp only [dw1]; try simp only [dw2, Nat.reduceAdd, Nat.reduceMul, Nat.reduceShiftRight, Nat.reduceMod, Nat.reduceEqDiff]); simp only [core, Nat.reduceAdd, Nat.reduceSub, Nat.reduceMul, Nat.reduceLT, Nat.reduceEqDiff, reduceCtorEq, Nat.reduceLeDiff, Int.reduceLE, Int.reduceLT, Int.reduceToNat, cored, hn, g4, g5, g7, g9, g10, g43, g44, g45, c1, hw, hwm, hwlt, r1, r2, LX6, nx6, a2, b2, w2, w3, ldr6, hldw, hldw0])
        refine (ints_x (hxb.ext ee6 (Nat.le_refl _)) (hwb.ext ee6 (Nat.le_refl _)) (by omega)).mono ?_
        rintro _ h8 ⟨rfl, rfl⟩
        rw [hunl]
        repeat ((with_reducible refine WDM_cons ?_; simp only [dw1]; try simp only [dw2, Nat.reduceAdd, Nat.reduceMul, Nat.reduceShiftRight, Nat.reduceMod, Nat.reduceEqDiff]); simp only [core, Nat.reduceAdd, Nat.reduceSub, Nat.reduceMul, Nat.reduceLT, Nat.reduceEqDiff, reduceCtorEq, Nat.reduceLeDiff, Int.reduceLE, Int.reduceLT, Int.reduceToNat, cored, hn, g4, g5, g7, g9, g10, g43, g44, g45, c1, hw, aundef])
        refine ih _ _ ⟨ee6, ?_⟩
        simp only [core, Nat.reduceAdd, Nat.reduceSub, Nat.reduceMul, Nat.reduceLT, Nat.reduceEqDiff, reduceCtorEq, Nat.reduceLeDiff, Int.reduceLE, Int.reduceLT, Int.reduceToNat, hn, g4, g5, g7, g9, g10, g43, g44, g45]
    · rintro t h' hc2 ⟨e5, hn, g4, g5, g7, g9, g10, g43, g44, g45⟩
      rw [← hrl, hend] at g10
      have k1 : ((ms.length : Int) != (ms.length : Int)) = false := bne_self_eq_false _
      have P5 := (e5.2 _ (at_lt PB)).trans PB
      have B5 := (e5.2 _ (at_lt BB)).trans BB
      have lp5 := at_lt P5
      have lb5 := at_lt B5
      have LP5 := ld_at (T := tabOf Try.prog NT0) P5
      unfold pgB at LP5
      have LB5 := ld_at (T := tabOf Try.prog NT0) B5
      simp only [core, Nat.reduceAdd, Nat.reduceSub, Nat.reduceMul, Nat.reduceLT, Nat.reduceEqDiff, reduceCtorEq, Nat.reduceLeDiff, Int.reduceLE, Int.reduceLT, Int.reduceToNat, hn, g4, g5, g7, g9, g10, g43, g44, g45, hc2, t1, t2, k1]
      rw [WB_regionD [0, 1, 2, 3, 4, 5] 33337376832 (by kernel_rfl)]
      repeat ((with_reducible refine WDM_cons ?_; simp only [dw1]; try simp only [dw2, Nat.reduceAdd, Nat.reduceMul, Nat.reduceShiftRight, Nat.reduceMod, Nat.reduceEqDiff]); simp only [core, Nat.reduceAdd, Nat.reduceSub, Nat.reduceMul, Nat.reduceLT, Nat.reduceEqDiff, reduceCtorEq, Nat.reduceLeDiff, Int.reduceLE, Int.reduceLT, Int.reduceToNat, cored, hn, g4, g5, g7, g9, g10, g43, g44, g45, LB5, lb5])
      have hEX5 : Ext h.n h h' := eB.step e5
      have hvO5 := hvO.ext hEX5 (Nat.le_refl _)
      refine ⟨fun hab => ?_, fun hab => ?_⟩
      · have hab : lb ≤ la := by have := of_decide_eq_true hab; omega
        revert hab
        generalize lb = a
        generalize la = b
        intro hab
        rw [WB_regionD [0, 1, 2, 4, 5, 6, 3, 7, 8, 9] 632895786093966882031754280960 (by kernel_rfl)]
        repeat ((with_reducible refine WDM_cons ?_; simp only [dw1]; try simp only [dw2, Nat.reduceAdd, Nat.reduceMul, Nat.reduceShiftRight, Nat.reduceMod, Nat.reduceEqDiff]); simp only [core, Nat.reduceAdd, Nat.reduceSub, Nat.reduceMul, Nat.reduceLT, Nat.reduceEqDiff, reduceCtorEq, Nat.reduceLeDiff, Int.reduceLE, Int.reduceLT, Int.reduceToNat, cored, hn, g4, g5, g7, g9, g10, g43, g44, g45, LP5, lp5, t1])
        refine (ask_x pool seed a hvO5 hlO hokO).mono ?_
        rintro va h6 ⟨e6, hva⟩
        have P6 := (e6.2 _ lp5).trans P5
        have lp6 := at_lt P6
        have LP6 := ld_at (T := tabOf Try.prog NT0) P6
        unfold pgB at LP6
        have va1 := hva.isSl
        have va2 := hva.lenD
        repeat ((with_reducible refine WDM_cons ?_; simp only [dw1]; try simp only [dw2, Nat.reduceAdd, Nat.reduceMul, Nat.reduceShiftRight, Nat.reduceMod, Nat.reduceEqDiff]); simp only [core, Nat.reduceAdd, Nat.reduceSub, Nat.reduceMul, Nat.reduceLT, Nat.reduceEqDiff, reduceCtorEq, Nat.reduceLeDiff, Int.reduceLE, Int.reduceLT, Int.reduceToNat, cored, hn, g4, g5, g7, g9, g10, g43, g44, g45, LP6, lp6, t1, va1])
        refine (ask_x pool seed b (hvO5.ext e6 (Nat.le_refl _)) hlO hokO).mono ?_
        rintro vc h7 ⟨e7, hvc⟩
        have vc1 := hvc.isSl
        have vc2 := hvc.lenD
        have hva7 := hva.ext e7 (Nat.le_refl _)
        rw [← hxs] at hva7 hvc va2 vc2
        generalize (ownD ms).getD ((ownD ms).length - 1) map0 = lm at hva7 hvc va2 vc2
        have hla := askG_len (les := a) (m := lm) hac
        have hlb := askG_len (les := b) (m := lm) hac
        have hmono : ∀ o ∈ askG b xs lm, o ∈ askG a xs lm := fun o ho => ask_mono hab ho
        generalize askG a xs lm = more at hva7 va2 hla hmono
        generalize askG b xs lm = less at hvc vc2 hlb hmono
        repeat ((with_reducible refine WDM_cons ?_; simp only [dw1]; try simp only [dw2, Nat.reduceAdd, Nat.reduceMul, Nat.reduceShiftRight, Nat.reduceMod, Nat.reduceEqDiff]); simp only [core, Nat.reduceAdd, Nat.reduceSub, Nat.reduceMul, Nat.reduceLT, Nat.reduceEqDiff, reduceCtorEq, Nat.reduceLeDiff, Int.reduceLE, Int.reduceLT, Int.reduceToNat, cored, hn, g4, g5, g7, g9, g10, g43, g44, g45, va1, va2, vc1, vc2])
        refine WB_for less.length (fun i t h => h = h7 ∧ t.n = 133 ∧ t.get 15 = va ∧ t.get 110 = vc ∧ t.get 111 = .lit (.int .i64 less.length) ∧ t.get 112 = .lit (.int .i64 i)) ?_ ?_ _ _ ?_
        · rintro i t h hlt3 hc3 ⟨rfl, hn, g15, g110, g111, g112⟩ ih
          obtain ⟨o, ho⟩ : ∃ o, less[i]? = some o := ⟨_, List.getElem?_eq_getElem hlt3⟩
          have hmem := hmono o (List.mem_of_getElem? ho)
          have hgd : less.getD i 0 = o := by rw [List.getD_eq_getElem?_getD, ho]; rfl
          have hldo := hvc.int (T := tabOf Try.prog NT0) (e := 3) (by kernel_rfl) (by kernel_rfl) hlt3
          rw [hgd] at hldo
          have hw3 := wrap_succ hlt3 (by omega)
          simp only [core, Nat.reduceAdd, Nat.reduceSub, Nat.reduceMul, Nat.reduceLT, Nat.reduceEqDiff, reduceCtorEq, Nat.reduceLeDiff, Int.reduceLE, Int.reduceLT, Int.reduceToNat, hn, g15, g110, g111, g112, hlt3, hc3, hldo, vc1, vc2, va1, va2]
          refine WB_for more.length (fun j t h' => h' = h ∧ t.n = 133 ∧ t.get 15 = va ∧ t.get 18 = .lit (.int .i64 o) ∧ t.get 19 = .lit (.bool ((more.take j).contains o)) ∧ t.get 110 = vc ∧ t.get 111 = .lit (.int .i64 less.length) ∧ t.get 112 = .lit (.int .i64 i) ∧ t.get 116 = va ∧ t.get 117 = .lit (.int .i64 more.length) ∧ t.get 118 = .lit (.int .i64 j)) ?_ ?_ _ _ ?_
          · rintro j t h' hlt4 hc4 ⟨rfl, hn, g15, g18, g19, g110, g111, g112, g116, g117, g118⟩ ih2
            obtain ⟨u, hu⟩ : ∃ u, more[j]? = some u := ⟨_, List.getElem?_eq_getElem hlt4⟩
            have hgd4 : more.getD j 0 = u := by rw [List.getD_eq_getElem?_getD, hu]; rfl
            have hldu := hva7.int (T := tabOf Try.prog NT0) (e := 3) (by kernel_rfl) (by kernel_rfl) hlt4
            rw [hgd4] at hldu
            have hw4 := wrap_succ hlt4 (by omega)
            have hsucc : (more.take (j + 1)).contains o = ((more.take j).contains o || (u == o)) := by
              rw [List.take_add_one, hu, List.contains_append]
              have : ((some u).toList.contains o) = (u == o) := by
                show [u].contains o = _
                rw [List.contains_cons]
                simp [Bool.beq_comm, eq_comm]
              rw [this]
            obtain ⟨acc, hacc⟩ : ∃ acc, acc = (more.take j).contains o := ⟨_, rfl⟩
            rw [← hacc] at hsucc g19
            cases acc with
            | true =>
              simp only [core, Nat.reduceAdd, Nat.reduceSub, Nat.reduceMul, Nat.reduceLT, Nat.reduceEqDiff, reduceCtorEq, Nat.reduceLeDiff, Int.reduceLE, Int.reduceLT, Int.reduceToNat, hn, g15, g18, g19, g110, g111, g112, g116, g117, g118, hlt4, hc4, hw4, hldu, va1, va2, aundef]
              refine ih2 _ _ ⟨rfl, ?_⟩
              rw [hsucc]
              simp only [core, Nat.reduceAdd, Nat.reduceSub, Nat.reduceMul, Nat.reduceLT, Nat.reduceEqDiff, reduceCtorEq, Nat.reduceLeDiff, Int.reduceLE, Int.reduceLT, Int.reduceToNat, hn, g15, g18, g19, g110, g111, g112, g116, g117, g118, Bool.true_or]
            | false =>
              simp only [core, Nat.reduceAdd, Nat.reduceSub, Nat.reduceMul, Nat.reduceLT, Nat.reduceEqDiff, reduceCtorEq, Nat.reduceLeDiff, Int.reduceLE, Int.reduceLT, Int.reduceToNat, hn, g15, g18, g19, g110, g111, g112, g116, g117, g118, hlt4, hc4, hw4, hldu, va1, va2, aundef]
              refine ih2 _ _ ⟨rfl, ?_⟩
              rw [hsucc]
              simp only [core, Nat.reduceAdd, Nat.reduceSub, Nat.reduceMul, Nat.reduceLT, Nat.reduceEqDiff, reduceCtorEq, Nat.reduceLeDiff, Int.reduceLE, Int.reduceLT, Int.reduceToNat, hn, g15, g18, g19, g110, g111, g112, g116, g117, g118, Bool.false_or]
          · rintro t h' hc4 ⟨rfl, hn, g15, g18, g19, g110, g111, g112, g116, g117, g118⟩
            have hall : (more.take more.length).contains o = true := by rw [List.take_length]; exact List.contains_iff_mem.2 hmem
            rw [hall] at g19
            simp only [core, Nat.reduceAdd, Nat.reduceSub, Nat.reduceMul, Nat.reduceLT, Nat.reduceEqDiff, reduceCtorEq, Nat.reduceLeDiff, Int.reduceLE, Int.reduceLT, Int.reduceToNat, hn, g15, g18, g19, g110, g111, g112, g116, g117, g118, hc4, hw3]
            refine ih _ _ ⟨rfl, ?_⟩
            simp only [core, Nat.reduceAdd, Nat.reduceSub, Nat.reduceMul, Nat.reduceLT, Nat.reduceEqDiff, reduceCtorEq, Nat.reduceLeDiff, Int.reduceLE, Int.reduceLT, Int.reduceToNat, hn, g15, g18, g19, g110, g111, g112, g116, g117, g118]
          · refine ⟨rfl, ?_⟩
            simp only [core, Nat.reduceAdd, Nat.reduceSub, Nat.reduceMul, Nat.reduceLT, Nat.reduceEqDiff, reduceCtorEq, Nat.reduceLeDiff, Int.reduceLE, Int.reduceLT, Int.reduceToNat, hn, g15, g110, g111, g112]
            (repeat' apply And.intro) <;> first | rfl | trivial
        · rintro t h hc3 ⟨rfl, hn, g15, g110, g111, g112⟩
          simp only [core, Nat.reduceAdd, Nat.reduceSub, Nat.reduceMul, Nat.reduceLT, Nat.reduceEqDiff, reduceCtorEq, Nat.reduceLeDiff, Int.reduceLE, Int.reduceLT, Int.reduceToNat, hn, g15, g110, g111, g112, hc3]
          refine lives15_x.mono ?_
          rintro _ h8 ⟨e8, rfl⟩
          simp only [core, Nat.reduceAdd, Nat.reduceSub, Nat.reduceMul, Nat.reduceLT, Nat.reduceEqDiff, reduceCtorEq, Nat.reduceLeDiff, Int.reduceLE, Int.reduceLT, Int.reduceToNat, hn, g15, g110, g111, g112]
        · refine ⟨rfl, ?_⟩
          simp only [core, Nat.reduceAdd, Nat.reduceSub, Nat.reduceMul, Nat.reduceLT, Nat.reduceEqDiff, reduceCtorEq, Nat.reduceLeDiff, Int.reduceLE, Int.reduceLT, Int.reduceToNat, hn, g4, g5, g7, g9, g10, g43, g44, g45]
          (repeat' apply And.intro) <;> first | rfl | trivial
      · have hab : la ≤ lb := by have := of_decide_eq_false hab; omega
        revert hab
        generalize la = a
        generalize lb = b
        intro hab
        rw [WB_regionD [0, 1, 2, 4, 5, 6, 3, 7, 8, 9] 632895786093966882031754280960 (by kernel_rfl)]
        repeat ((with_reducible refine WDM_cons ?_; simp only [dw1]; try simp only [dw2, Nat.reduceAdd, Nat.reduceMul, Nat.reduceShiftRight, Nat.reduceMod, Nat.reduceEqDiff]); simp only [core, Nat.reduceAdd, Nat.reduceSub, Nat.reduceMul, Nat.reduceLT, Nat.reduceEqDiff, reduceCtorEq, Nat.reduceLeDiff, Int.reduceLE, Int.reduceLT, Int.reduceToNat, cored, hn, g4, g5, g7, g9, g10, g43, g44, g45, LP5, lp5, t1])
        refine (ask_x pool seed a hvO5 hlO hokO).mono ?_
        rintro va h6 ⟨e6, hva⟩
        have P6 := (e6.2 _ lp5).trans P5
        have lp6 := at_lt P6
        have LP6 := ld_at (T := tabOf Try.prog NT0) P6
        unfold pgB at LP6
        have va1 := hva.isSl
        have va2 := hva.lenD
        repeat ((with_reducible refine WDM_cons ?_; simp only [dw1]; try simp only [dw2, Nat.reduceAdd, Nat.reduceMul, Nat.reduceShiftRight, Nat.reduceMod, Nat.reduceEqDiff]); simp only [core, Nat.reduceAdd, Nat.reduceSub, Nat.reduceMul, Nat.reduceLT, Nat.reduceEqDiff, reduceCtorEq, Nat.reduceLeDiff, Int.reduceLE, Int.reduceLT, Int.reduceToNat, cored, hn, g4, g5, g7, g9, g10, g43, g44, g45, LP6, lp6, t1, va1])
        refine (ask_x pool seed b (hvO5.ext e6 (Nat.le_refl _)) hlO hokO).mono ?_
        rintro vc h7 ⟨e7, hvc⟩
        have vc1 := hvc.isSl
        have vc2 := hvc.lenD
        have hva7 := hva.ext e7 (Nat.le_refl _)
        rw [← hxs] at hva7 hvc va2 vc2
        generalize (ownD ms).getD ((ownD ms).length - 1) map0 = lm at hva7 hvc va2 vc2
        have hla := askG_len (les := a) (m := lm) hac
        have hlb := askG_len (les := b) (m := lm) hac
        have hmono : ∀ o ∈ askG b xs lm, o ∈ askG a xs lm := fun o ho => ask_mono hab ho
        generalize askG a xs lm = more at hva7 va2 hla hmono
        generalize askG b xs lm = less at hvc vc2 hlb hmono
        repeat ((with_reducible refine WDM_cons ?_; simp only [dw1]; try simp only [dw2, Nat.reduceAdd, Nat.reduceMul, Nat.reduceShiftRight, Nat.reduceMod, Nat.reduceEqDiff]); simp only [core, Nat.reduceAdd, Nat.reduceSub, Nat.reduceMul, Nat.reduceLT, Nat.reduceEqDiff, reduceCtorEq, Nat.reduceLeDiff, Int.reduceLE, Int.reduceLT, Int.reduceToNat, cored, hn, g4, g5, g7, g9, g10, g43, g44, g45, va1, va2, vc1, vc2])
        refine WB_for less.length (fun i t h => h = h7 ∧ t.n = 133 ∧ t.get 15 = va ∧ t.get 110 = vc ∧ t.get 111 = .lit (.int .i64 less.length) ∧ t.get 112 = .lit (.int .i64 i)) ?_ ?_ _ _ ?_
        · rintro i t h hlt3 hc3 ⟨rfl, hn, g15, g110, g111, g112⟩ ih
          obtain ⟨o, ho⟩ : ∃ o, less[i]? = some o := ⟨_, List.getElem?_eq_getElem hlt3⟩
          have hmem := hmono o (List.mem_of_getElem? ho)
          have hgd : less.getD i 0 = o := by rw [List.getD_eq_getElem?_getD, ho]; rfl
          have hldo := hvc.int (T := tabOf Try.prog NT0) (e := 3) (by kernel_rfl) (by kernel_rfl) hlt3
          rw [hgd] at hldo
          have hw3 := wrap_succ hlt3 (by omega)
          simp only [core, Nat.reduceAdd, Nat.reduceSub, Nat.reduceMul, Nat.reduceLT, Nat.reduceEqDiff, reduceCtorEq, Nat.reduceLeDiff, Int.reduceLE, Int.reduceLT, Int.reduceToNat, hn, g15, g110, g111, g112, hlt3, hc3, hldo, vc1, vc2, va1, va2]
          refine WB_for more.length (fun j t h' => h' = h ∧ t.n = 133 ∧ t.get 15 = va ∧ t.get 18 = .lit (.int .i64 o) ∧ t.get 19 = .lit (.bool ((more.take j).contains o)) ∧ t.get 110 = vc ∧ t.get 111 = .lit (.int .i64 less.length) ∧ t.get 112 = .lit (.int .i64 i) ∧ t.get 116 = va ∧ t.get 117 = .lit (.int .i64 more.length) ∧ t.get 118 = .lit (.int .i64 j)) ?_ ?_ _ _ ?_
          · rintro j t h' hlt4 hc4 ⟨rfl, hn, g15, g18, g19, g110, g111, g112, g116, g117, g118⟩ ih2
            obtain ⟨u, hu⟩ : ∃ u, more[j]? = some u := ⟨_, List.getElem?_eq_getElem hlt4⟩
            have hgd4 : more.getD j 0 = u := by rw [List.getD_eq_getElem?_getD, hu]; rfl
            have hldu := hva7.int (T := tabOf Try.prog NT0) (e := 3) (by kernel_rfl) (by kernel_rfl) hlt4
            rw [hgd4] at hldu
            have hw4 := wrap_succ hlt4 (by omega)
            have hsucc : (more.take (j + 1)).contains o = ((more.take j).contains o || (u == o)) := by
              rw [List.take_add_one, hu, List.contains_append]
              have : ((some u).toList.contains o) = (u == o) := by
                show [u].contains o = _
                rw [List.contains_cons]
                simp [Bool.beq_comm, eq_comm]
              rw [this]
            obtain ⟨acc, hacc⟩ : ∃ acc, acc = (more.take j).contains o := ⟨_, rfl⟩
            rw [← hacc] at hsucc g19
            cases acc with
            | true =>
              simp only [core, Nat.reduceAdd, Nat.reduceSub, Nat.reduceMul, Nat.reduceLT, Nat.reduceEqDiff, reduceCtorEq, Nat.reduceLeDiff, Int.reduceLE, Int.reduceLT, Int.reduceToNat, hn, g15, g18, g19, g110, g111, g112, g116, g117, g118, hlt4, hc4, hw4, hldu, va1, va2, aundef]
              refine ih2 _ _ ⟨rfl, ?_⟩
              rw [hsucc]
              simp only [core, Nat.reduceAdd, Nat.reduceSub, Nat.reduceMul, Nat.reduceLT, Nat.reduceEqDiff, reduceCtorEq, Nat.reduceLeDiff, Int.reduceLE, Int.reduceLT, Int.reduceToNat, hn, g15, g18, g19, g110, g111, g112, g116, g117, g118, Bool.true_or]
            | false =>
              simp only [core, Nat.reduceAdd, Nat.reduceSub, Nat.reduceMul, Nat.reduceLT, Nat.reduceEqDiff, reduceCtorEq, Nat.reduceLeDiff, Int.reduceLE, Int.reduceLT, Int.reduceToNat, hn, g15, g18, g19, g110, g111, g112, g116, g117, g118, hlt4, hc4, hw4, hldu, va1, va2, aundef]
              refine ih2 _ _ ⟨rfl, ?_⟩
              rw [hsucc]
              simp only [core, Nat.reduceAdd, Nat.reduceSub, Nat.reduceMul, Nat.reduceLT, Nat.reduceEqDiff, reduceCtorEq, Nat.reduceLeDiff, Int.reduceLE, Int.reduceLT, Int.reduceToNat, hn, g15, g18, g19, g110, g111, g112, g116, g117, g118, Bool.false_or]
          · rintro t h' hc4 ⟨rfl, hn, g15, g18, g19, g110, g111, g112, g116, g117, g118⟩
            have hall : (more.take more.length).contains o = true := by rw [List.take_length]; exact List.contains_iff_mem.2 hmem
            rw [hall] at g19
            simp only [core, Nat.reduceAdd, Nat.reduceSub, Nat.reduceMul, Nat.reduceLT, Nat.reduceEqDiff, reduceCtorEq, Nat.reduceLeDiff, Int.reduceLE, Int.reduceLT, Int.reduceToNat, hn, g15, g18, g19, g110, g111, g112, g116, g117, g118, hc4, hw3]
            refine ih _ _ ⟨rfl, ?_⟩
            simp only [core, Nat.reduceAdd, Nat.reduceSub, Nat.reduceMul, Nat.reduceLT, Nat.reduceEqDiff, reduceCtorEq, Nat.reduceLeDiff, Int.reduceLE, Int.reduceLT, Int.reduceToNat, hn, g15, g18, g19, g110, g111, g112, g116, g117, g118]
          · refine ⟨rfl, ?_⟩
            simp only [core, Nat.reduceAdd, Nat.reduceSub, Nat.reduceMul, Nat.reduceLT, Nat.reduceEqDiff, reduceCtorEq, Nat.reduceLeDiff, Int.reduceLE, Int.reduceLT, Int.reduceToNat, hn, g15, g110, g111, g112]
            (repeat' apply And.intro) <;> first | rfl | trivial
        · rintro t h hc3 ⟨rfl, hn, g15, g110, g111, g112⟩
          simp only [core, Nat.reduceAdd, Nat.reduceSub, Nat.reduceMul, Nat.reduceLT, Nat.reduceEqDiff, reduceCtorEq, Nat.reduceLeDiff, Int.reduceLE, Int.reduceLT, Int.reduceToNat, hn, g15, g110, g111, g112, hc3]
          refine lives15_x.mono ?_
          rintro _ h8 ⟨e8, rfl⟩
          simp only [core, Nat.reduceAdd, Nat.reduceSub, Nat.reduceMul, Nat.reduceLT, Nat.reduceEqDiff, reduceCtorEq, Nat.reduceLeDiff, Int.reduceLE, Int.reduceLT, Int.reduceToNat, hn, g15, g110, g111, g112]
        · refine ⟨rfl, ?_⟩
          simp only [core, Nat.reduceAdd, Nat.reduceSub, Nat.reduceMul, Nat.reduceLT, Nat.reduceEqDiff, reduceCtorEq, Nat.reduceLeDiff, Int.reduceLE, Int.reduceLT, Int.reduceToNat, hn, g4, g5, g7, g9, g10, g43, g44, g45]
          (repeat' apply And.intro) <;> first | rfl | trivial
    · simp only [core, Nat.reduceAdd, Nat.reduceSub, Nat.reduceMul, Nat.reduceLT, Nat.reduceEqDiff, reduceCtorEq, Nat.reduceLeDiff, Int.reduceLE, Int.reduceLT, Int.reduceToNat, hn, g4, g5, g7, g29, g30, g31]
      refine ⟨Ext.refl _ _, ?_⟩
      (repeat' apply And.intro) <;> first | rfl | trivial
  · simp only [core, Nat.reduceAdd, Nat.reduceSub, Nat.reduceMul, Nat.reduceLT, Nat.reduceEqDiff, reduceCtorEq, Nat.reduceLeDiff, Int.reduceLE, Int.reduceLT, Int.reduceToNat]
    refine ⟨⟨fun _ _ => trivial, L0, hat0, ?_⟩, ?_⟩
    · rw [ownN_zero]; exact hE0
    · (repeat' apply And.intro) <;> first | rfl | trivial
end Go.Proofs.Ytkgbeihcepociaa.Ex
namespace Go.Proofs.Ytkgbeihcepociaa.Ex
open Go Go.RowKit Go.ChangeShapes Go.WideShapes Go.ChangeAt
theorem i64_wf {n : Int} (hw : (Lit.int .i64 n).wf = true) : I64 n := by
  simp only [Lit.wf, IntKind.min, IntKind.max, IntKind.signed, IntKind.bits] at hw
  simp at hw
  exact ⟨hw.1, by omega⟩
theorem opensA_two {H : Type} {enc : TypeId × Value → H} {W : World} : OpensA enc Try.prog W 74 (RPair RInt RInt) (fun _ => True) := by
  have hci : Try.prog.cellsOf 3 = 1 := by kernel_rfl
  refine ⟨by kernel_rfl, fun fuel cs x hf _ => ?_⟩
  obtain ⟨xs, m, rfl, rfl, hcs, hxs, hel⟩ := DataW.trod_array Try.underlying74 hf
  have hc2 : Try.prog.cellsOf 74 = 2 := by kernel_rfl
  rw [hc2] at hcs
  match cs, hcs with
  | [c0, c1], _ =>
    have h0 := hel 0 (by decide)
    have h1 := hel 1 (by decide)
    rw [hci] at h0 h1
    have e0 : xs[0]? = some xs[0] := List.getElem?_eq_getElem (by omega)
    have e1 : xs[1]? = some xs[1] := List.getElem?_eq_getElem (by omega)
    rw [e0] at h0
    rw [e1] at h1
    obtain ⟨a, q0, -, w0⟩ := DataW.trod_int Try.underlying3 h0
    obtain ⟨b, q1, -, w1⟩ := DataW.trod_int Try.underlying3 h1
    have q0 : [c0] = [.int .i64 a] := q0
    have q1 : [c1] = [.int .i64 b] := q1
    cases q0
    cases q1
    refine ⟨rfl, ?_, (a, b), ⟨[.lit (.int .i64 a)], [.lit (.int .i64 b)], rfl, ⟨rfl, i64_wf w0⟩, ⟨rfl, i64_wf w1⟩⟩, trivial⟩
    intro c hc
    simp only [List.mem_cons, List.not_mem_nil, or_false] at hc
    rcases hc with rfl | rfl <;> rfl
end Go.Proofs.Ytkgbeihcepociaa.Ex
namespace Go.Proofs.Ytkgbeihcepociaa
open Go.RowKit Go.ChangeShapes Go.WideShapes Go.ChangeAt
set_option maxRecDepth 100000 in
theorem intervalBack_walk {H : Type} {enc : TypeId × Value → H} {W : World} {base : Nat} {v0 v1 v2 : Value} {d0 d1 d2 : DataW H} {p0 p1 p2 : List MemPlace}
    (k0 : Value.okWide Try.prog W .any base 33 v0) (h0 : DataW.Trod enc Try.prog W 0 (fun _ => true) true 33 v0 d0 p0)
    (k1 : Value.okWide Try.prog W .any base 56 v1) (h1 : DataW.Trod enc Try.prog W 0 (fun _ => true) true 56 v1 d1 p1)
    (k2 : Value.okWide Try.prog W .any base 74 v2) (h2 : DataW.Trod enc Try.prog W 0 (fun _ => true) true 74 v2 d2 p2)
    {ts : List TypeId} {ds : List (DataW H)} (hsz : (DataW.weightsEach Try.prog ([33, 56, 74] ++ ts) ([d0, d1, d2] ++ ds)).all (· ≤ reachBytes) = true) :
    Calls Try.prog 10 #[v0, v1, v2] W fun e w' => e = .returned (.bool true) ∧ Below W.heap.size W w' := by
  obtain ⟨v, ms, r0, i0, ok0⟩ := Ex.open_sl Ex.opensA_Mps Try.underlying33 k0 h0 (weights_le hsz (j := 0) rfl rfl)
  obtain ⟨c1, g, r1, i1, -⟩ := Ex.open_agg Ex.opensA_Pg Try.underlying56 rfl k1 h1 (weights_le hsz (j := 1) rfl rfl)
  obtain ⟨c2, l, r2, i2, -⟩ := Ex.open_agg Ex.opensA_two Try.underlying74 rfl k2 h2 (weights_le hsz (j := 2) rfl rfl)
  obtain ⟨rfl, -⟩ := Ex.RPg_is.1 i1
  obtain ⟨_, _, rfl, ⟨rfl, -⟩, ⟨rfl, -⟩⟩ := i2
  exact Ex.law_join (Ex.rels_cons r0 (Ex.rels_cons r1 (Ex.rels_cons r2 Ex.rels_nil))) (Ex.intervalBack_m g.pool g.seed l.1 l.2 i0 (fun b hb => hb) ok0.1 ok0.2)
end Go.Proofs.Ytkgbeihcepociaa
end
