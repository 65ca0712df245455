/- Part 14 of the proof: IntervalAsksWalk. -/
import Derived.Test.YtkgbeihcepociaaM13
section

set_option linter.unusedSimpArgs false
set_option linter.unusedVariables false
set_option maxRecDepth 10000
set_option maxHeartbeats 4000000
namespace Go.Proofs.Ytkgbeihcepociaa.Ex
open Go Go.RowKit Go.ChangeShapes Go.WideShapes Go.ChangeAt
/-- An own row may be written over. -/
theorem OwnL.row {α : Type} {R : Rep α} {G : Nat → Prop} {n0 : Nat} {h : AH} {v : AV} {e : TypeId} {xs : List α} (ho : OwnL R G n0 h v e xs) (hne : xs ≠ []) : ∃ p row, v = .sl p 0 xs.length (.un R.z) ∧ n0 ≤ p ∧ h.at p = some (.cells row e) ∧ row.length = xs.length * R.z := by
  obtain ⟨L, h1, h2⟩ := ho
  have e0 := h2.1
  rcases h1.2 with ⟨rfl, rfl⟩ | ⟨p, rfl, hp, hat⟩
  · exact absurd (List.eq_nil_of_length_eq_zero (by rw [← e0]; rfl)) hne
  · exact ⟨p, L.flatten, by rw [e0], hp, hat, by rw [flat_len h1.1, e0]⟩
theorem put_ok {l c : List AV} {i : Nat} (h : i + c.length ≤ l.length) : ∃ l', put l i c = some l' ∧ l'.length = l.length := by
  have : put l i c = some (l.take i ++ c ++ l.drop (i + c.length)) := by unfold put; rw [if_pos h]
  exact ⟨_, this, put_length this⟩
/-- Rows of numbers from a block on may have been written over. -/
def Ovr (n1 : Nat) (h0 h : AH) : Prop := h.n = h0.n ∧ ∀ b, h.at b = h0.at b ∨ (n1 ≤ b ∧ ∃ row row', h0.at b = some (.cells row 3) ∧ h.at b = some (.cells row' 3) ∧ row'.length = row.length)
theorem Ovr.refl {n1 : Nat} {h : AH} : Ovr n1 h h := ⟨rfl, fun _ => .inl rfl⟩
theorem Ovr.low {n1 : Nat} {h0 h : AH} (o : Ovr n1 h0 h) {b : Nat} (hb : b < n1) : h.at b = h0.at b := by
  rcases o.2 b with h | ⟨h, -⟩
  · exact h
  · omega
theorem Ovr.int {n1 : Nat} {h0 h : AH} (o : Ovr n1 h0 h) {b : Nat} {row : List AV} (hb : h0.at b = some (.cells row 3)) : ∃ row', h.at b = some (.cells row' 3) ∧ row'.length = row.length := by
  rcases o.2 b with h | ⟨-, r, r', h1, h2, h3⟩
  · exact ⟨row, h.trans hb, rfl⟩
  · rw [hb] at h1; cases h1; exact ⟨r', h2, h3⟩
theorem Ovr.iv {n1 : Nat} {h0 h : AH} (o : Ovr n1 h0 h) {b : Nat} {row : List AV} (hb : h0.at b = some (.cells row 65)) : h.at b = some (.cells row 65) := by
  rcases o.2 b with h | ⟨-, r, r', h1, h2, h3⟩
  · exact h.trans hb
  · rw [hb] at h1; exact absurd (AB.cells.inj (Option.some.inj h1)).2 (by decide)
theorem Ovr.put {n1 : Nat} {h0 h : AH} (o : Ovr n1 h0 h) {b : Nat} {row row' : List AV} (hn : n1 ≤ b) (hb : h.at b = some (.cells row 3)) (hl : row'.length = row.length) : Ovr n1 h0 (h.put b (.cells row' 3)) := by
  refine ⟨by rw [n_put]; exact o.1, fun c => ?_⟩
  by_cases hc : b = c
  · subst hc
    right
    refine ⟨hn, ?_⟩
    rcases o.2 b with h1 | ⟨-, r, r', h1, h2, h3⟩
    · exact ⟨row, row', h1.symm.trans hb, at_put_same _ (at_lt hb), hl⟩
    · rw [hb] at h2
      cases h2
      exact ⟨r, row', h1, at_put_same _ (at_lt hb), hl.trans h3⟩
  · rw [at_put_ne _ hc]
    exact o.2 c
theorem intervalAsks_m {F : Nat → Prop} {H : AH} {v : AV} {ms : List MapD} (pool seed les : Int) (hv : IsSl RMp F H v ms) (hF : ∀ b, F b → b < H.n) (hl : Sm 88 ms) (hok : ∀ m ∈ ms, OkMp m) :
    WC Try.prog (tabOf Try.prog NT0) S0 9 [v, pgV pool seed, .lit (.int .i64 les)] H fun r h' => r = .lit (.bool true) := by
  refine WC_fn Try.func9 rfl rfl ?_
  have s1 := hv.isSl
  have s2 := hv.lenD
  have hl' := hl
  unfold Sm at hl'
  simp only [core, Nat.reduceAdd, Nat.reduceSub, Nat.reduceMul, Nat.reduceLT, Nat.reduceEqDiff, reduceCtorEq, Nat.reduceLeDiff, Int.reduceLE, Int.reduceLT, Int.reduceToNat, Try.ntmps9, pgV, s1, s2]
  obtain ⟨h1, hh1⟩ : ∃ h1, h1 = H.push (pgB pool seed) := ⟨_, rfl⟩
  have E1 : Ext H.n H h1 := hh1 ▸ (Ext.refl _ _).push _ (Nat.le_refl _)
  have P1 : h1.at H.n = some (pgB pool seed) := hh1 ▸ at_push_n _ _
  unfold pgB at hh1
  rw [← hh1]
  clear hh1
  have lp1 := at_lt P1
  refine (few_x (hv.ext E1 (Nat.le_refl _)) hl).mono ?_
  rintro _ h2 ⟨e2, bf, rfl⟩
  have E2 := E1.step e2
  have P2 := (e2.2 _ lp1).trans P1
  have lp2 := at_lt P2
  have LP2 := ld_at (T := tabOf Try.prog NT0) P2
  unfold pgB at LP2
  cases bf with
  | false =>
    simp only [core, Nat.reduceAdd, Nat.reduceSub, Nat.reduceMul, Nat.reduceLT, Nat.reduceEqDiff, reduceCtorEq, Nat.reduceLeDiff, Int.reduceLE, Int.reduceLT, Int.reduceToNat]
    refine lives15_x.mono ?_
    rintro _ h3 ⟨e3, rfl⟩
    simp only [core, Nat.reduceAdd, Nat.reduceSub, Nat.reduceMul, Nat.reduceLT, Nat.reduceEqDiff, reduceCtorEq, Nat.reduceLeDiff, Int.reduceLE, Int.reduceLT, Int.reduceToNat]
  | true =>
  simp only [core, Nat.reduceAdd, Nat.reduceSub, Nat.reduceMul, Nat.reduceLT, Nat.reduceEqDiff, reduceCtorEq, Nat.reduceLeDiff, Int.reduceLE, Int.reduceLT, Int.reduceToNat, s1, s2, LP2, lp2]
  refine (all15_x pool seed (hv.ext E2 (Nat.le_refl _)) hl hok).mono ?_
  rintro r h3 ⟨e3, n0, hn0, hown⟩
  have E3 := E2.step e3
  have P3 := (e3.2 _ lp2).trans P2
  have lp3 := at_lt P3
  have hr := hown.toSl (F := fun _ => True) (fun _ _ => trivial) (fun _ _ => trivial)
  have hil := ivsF_len (pool := pool) (seed := seed) (ms := ms)
  have hac := fun x hx => ivs_ok (pool := pool) (seed := seed) (ms := ms) x hx
  have hask := ask_same (pool := pool) (seed := seed) (les := les) (ms := ms) (m := ms.getD (ms.length - 1) map0)
  have hak := fun m => askG_len (les := les) (xs := ivsF pool seed ms) (m := m) hac
  obtain ⟨xs, hxs⟩ : ∃ xs, xs = ivsF pool seed ms := ⟨_, rfl⟩
  rw [← hxs] at hr hil hac hask hak
  have r1 := hr.isSl
  have r2 := hr.lenD
  have hsz : ∀ x ∈ xs, x.acting.length * 8 ≤ 140737488355328 ∧ x.boots.length * 8 ≤ 140737488355328 := fun z hz => by have := hac z hz; omega
  have hsz2 : ∀ x ∈ priorF les xs, x.acting.length < 2 ^ 62 ∧ x.boots.length < 2 ^ 62 := fun z hz => by
    have := hac z (List.dropLast_subset _ (List.mem_filter.1 hz).1); omega
  have hpl : (priorF les xs).length ≤ xs.length := by
    have := List.length_filter_le (askF les) xs.dropLast
    rw [List.length_dropLast] at this
    exact Nat.le_trans this (by omega)
  simp only [core, Nat.reduceAdd, Nat.reduceSub, Nat.reduceMul, Nat.reduceLT, Nat.reduceEqDiff, reduceCtorEq, Nat.reduceLeDiff, Int.reduceLE, Int.reduceLT, Int.reduceToNat, s1, s2, r1]
  refine (prior_o les hr (by omega) hsz).mono ?_
  rintro q h4 ⟨e4, hq⟩
  have E4 := E3.step e4
  have P4 := (e4.2 _ lp3).trans P3
  have lp4 := at_lt P4
  have hqs := hq.toIv.toSl (F := fun _ => True) (fun _ _ => trivial) (fun _ _ => trivial)
  have q1 := hqs.isSl
  have q2 := hqs.lenD
  have hr4 := hr.ext e4 (Nat.le_refl _)
  simp only [core, Nat.reduceAdd, Nat.reduceSub, Nat.reduceMul, Nat.reduceLT, Nat.reduceEqDiff, reduceCtorEq, Nat.reduceLeDiff, Int.reduceLE, Int.reduceLT, Int.reduceToNat, r1, q1]
  rw [WB_regionD [0, 1, 2, 3, 4, 5, 6, 7, 8, 9, 11, 12, 13, 10, 14, 15, 16, 17] 17087798509205256993395745267423838712947295981743425785194525129134719493851283305576807415152640 (by kernel_rfl)]
  repeat ((with_reducible refine WDM_cons ?_; simp only [dw1]; try simp only [dw2, Nat.reduceAdd, Nat.reduceMul, Nat.reduceShiftRight, Nat.reduceMod, Nat.reduceEqDiff]); simp only [core, Nat.reduceAdd, Nat.reduceSub, Nat.reduceMul, Nat.reduceLT, Nat.reduceEqDiff, reduceCtorEq, Nat.reduceLeDiff, Int.reduceLE, Int.reduceLT, Int.reduceToNat, cored, r1, q1])
  refine (prior15_x les hr4 (by omega) hsz).mono ?_
  rintro w h5 ⟨e5, hw15⟩
  have P5 := (e5.2 _ lp4).trans P4
  have lp5 := at_lt P5
  have w1 := hw15.isSl
  have E5 := E4.step e5
  repeat ((with_reducible refine WDM_cons ?_; simp only [dw1]; try simp only [dw2, Nat.reduceAdd, Nat.reduceMul, Nat.reduceShiftRight, Nat.reduceMod, Nat.reduceEqDiff]); simp only [core, Nat.reduceAdd, Nat.reduceSub, Nat.reduceMul, Nat.reduceLT, Nat.reduceEqDiff, reduceCtorEq, Nat.reduceLeDiff, Int.reduceLE, Int.reduceLT, Int.reduceToNat, cored, r1, q1, w1])
  refine (same15_x (hqs.ext e5 (Nat.le_refl _)) hw15 (by omega) hsz2).mono ?_
  rintro _ h6 ⟨e6, rfl⟩
  have hself : ∀ ys, eqIvs ys ys = true := fun ys => eqIvs_iff.2 rfl
  rw [hself]
  have E6 := E5.step e6
  have P6 := (e6.2 _ lp5).trans P5
  have lp6 := at_lt P6
  have LP6 := ld_at (T := tabOf Try.prog NT0) P6
  unfold pgB at LP6
  repeat ((with_reducible refine WDM_cons ?_; simp only [dw1]; try simp only [dw2, Nat.reduceAdd, Nat.reduceMul, Nat.reduceShiftRight, Nat.reduceMod, Nat.reduceEqDiff]); simp only [core, Nat.reduceAdd, Nat.reduceSub, Nat.reduceMul, Nat.reduceLT, Nat.reduceEqDiff, reduceCtorEq, Nat.reduceLeDiff, Int.reduceLE, Int.reduceLT, Int.reduceToNat, cored, r1, q1, w1, s1, LP6, lp6])
  refine (ask_x pool seed les (hv.ext E6 (Nat.le_refl _)) hl hok).mono ?_
  rintro a h7 ⟨e7, ha7⟩
  have E7 := E6.step e7
  have P7 := (e7.2 _ lp6).trans P6
  have lp7 := at_lt P7
  have LP7 := ld_at (T := tabOf Try.prog NT0) P7
  unfold pgB at LP7
  have a1 := ha7.isSl
  repeat ((with_reducible refine WDM_cons ?_; simp only [dw1]; try simp only [dw2, Nat.reduceAdd, Nat.reduceMul, Nat.reduceShiftRight, Nat.reduceMod, Nat.reduceEqDiff]); simp only [core, Nat.reduceAdd, Nat.reduceSub, Nat.reduceMul, Nat.reduceLT, Nat.reduceEqDiff, reduceCtorEq, Nat.reduceLeDiff, Int.reduceLE, Int.reduceLT, Int.reduceToNat, cored, r1, q1, w1, a1, s1, LP7, lp7])
  refine (ask15_x pool seed les (hv.ext E7 (Nat.le_refl _)) hl hok).mono ?_
  rintro b h8 ⟨e8, hb8⟩
  have E8 := E7.step e8
  have P8 := (e8.2 _ lp7).trans P7
  have lp8 := at_lt P8
  have b1 := hb8.isSl
  rw [← hxs] at ha7 hb8
  repeat ((with_reducible refine WDM_cons ?_; simp only [dw1]; try simp only [dw2, Nat.reduceAdd, Nat.reduceMul, Nat.reduceShiftRight, Nat.reduceMod, Nat.reduceEqDiff]); simp only [core, Nat.reduceAdd, Nat.reduceSub, Nat.reduceMul, Nat.reduceLT, Nat.reduceEqDiff, reduceCtorEq, Nat.reduceLeDiff, Int.reduceLE, Int.reduceLT, Int.reduceToNat, cored, r1, q1, w1, a1, b1, s1])
  refine (ints_x (ha7.ext e8 (Nat.le_refl _)) hb8 (by have := hak (ms.getD (ms.length - 1) map0); omega)).mono ?_
  rintro _ h ⟨rfl, rfl⟩
  have hself2 : (askG les xs (ms.getD (ms.length - 1) map0) == ask15G les xs (ms.getD (ms.length - 1) map0)) = true := by rw [hask]; exact beq_self_eq_true _
  rw [hself2]
  repeat ((with_reducible refine WDM_cons ?_; simp only [dw1]; try simp only [dw2, Nat.reduceAdd, Nat.reduceMul, Nat.reduceShiftRight, Nat.reduceMod, Nat.reduceEqDiff]); simp only [core, Nat.reduceAdd, Nat.reduceSub, Nat.reduceMul, Nat.reduceLT, Nat.reduceEqDiff, reduceCtorEq, Nat.reduceLeDiff, Int.reduceLE, Int.reduceLT, Int.reduceToNat, cored, r1, q1, q2])
  have e48 : Ext h4.n h4 h := ((e5.step e6).step e7).step e8
  have hq8 := hq.ext e48 (Nat.le_refl _)
  have hq8s := hq8.toSl (F := fun b => h3.n ≤ b) (fun _ h => h) (fun _ h => h)
  have hn34 := e4.1
  obtain ⟨p, row0, hp⟩ : ∃ p row0, priorF les xs ≠ [] → (slB q = p ∧ slO q = 0 ∧ h3.n ≤ p ∧ h.at p = some (.cells row0 65)) := by
    by_cases hx : priorF les xs = []
    · exact ⟨0, [], fun h => absurd hx h⟩
    · obtain ⟨p, row, rfl, a1, a2, a3⟩ := hq8.row hx
      exact ⟨p, row, fun _ => ⟨rfl, rfl, a1, a2⟩⟩
  obtain ⟨h0, hh0⟩ : ∃ h0, h0 = h := ⟨_, rfl⟩
  rw [← hh0] at hq8s hp P8 lp8 E8 e48
  have hkeep : ∀ k : AH, Ovr h3.n h0 k → ∀ b, b < h3.n → k.at b = h3.at b := fun k o b hb => (o.low hb).trans ((e48.2 b (by omega)).trans (e4.2 b hb))
  refine WB_for (priorF les xs).length (fun i t h => Ovr h3.n h0 h ∧ t.n = 70 ∧ t.get 0 = v ∧ t.get 4 = .ptr H.n 0 ∧ t.get 7 = r ∧ t.get 8 = q ∧ t.get 40 = .lit (.int .i64 (priorF les xs).length) ∧ t.get 41 = .lit (.int .i64 i)) ?_ ?_ _ _ ?_
  · rintro i t h hlt hc ⟨o, hn, g0, g4, g7, g8, g40, g41⟩ ih
    obtain ⟨x, hx⟩ : ∃ x, (priorF les xs)[i]? = some x := ⟨_, List.getElem?_eq_getElem hlt⟩
    have hne : priorF les xs ≠ [] := fun hh => by rw [hh] at hlt; simp at hlt
    obtain ⟨z1, z2, z3, z4⟩ := hp hne
    have hxm : x ∈ xs := List.dropLast_subset _ (List.mem_filter.1 (List.mem_of_getElem? hx)).1
    have hxac := hac x hxm
    have hw := wrap_succ hlt (by omega)
    obtain ⟨c, hc1, hld, hld0⟩ := hq8s.at (T := tabOf Try.prog NT0) (z := 5) rfl hx
    obtain ⟨va, vb, rfl, hva, hvb, i1, i2, hcell⟩ := hc1
    have ldq : ∀ k, Ovr h3.n h0 k → ∀ e off, loadA (tabOf Try.prog NT0) k e (slB q) off = loadA (tabOf Try.prog NT0) h0 e (slB q) off := fun k o e off => by
      rw [z1]
      simp only [loadA, getR, o.iv z4, z4]
    have ldh := ldq h o
    have a1 := hva.one
    have a2 := hva.isSl
    have a3 := hva.lenD
    simp only [core, Nat.reduceAdd, Nat.reduceSub, Nat.reduceMul, Nat.reduceLT, Nat.reduceEqDiff, reduceCtorEq, Nat.reduceLeDiff, Int.reduceLE, Int.reduceLT, Int.reduceToNat, hn, g0, g4, g7, g8, g40, g41, hlt, hc, q1, q2, ldh, hld, hld0, a1, a2, a3]
    refine WB_for x.acting.length (fun k t h => Ovr h3.n h0 h ∧ t.n = 70 ∧ t.get 0 = v ∧ t.get 4 = .ptr H.n 0 ∧ t.get 7 = r ∧ t.get 8 = q ∧ t.get 9 = .lit (.int .i64 i) ∧ t.get 40 = .lit (.int .i64 (priorF les xs).length) ∧ t.get 41 = .lit (.int .i64 i) ∧ t.get 49 = .lit (.int .i64 x.acting.length) ∧ t.get 50 = .lit (.int .i64 k)) ?_ ?_ _ _ ?_
    · rintro k t h hlt3 hc3 ⟨o, hn, g0, g4, g7, g8, g9, g40, g41, g49, g50⟩ ih2
      have hna : x.acting ≠ [] := fun hh => by rw [hh] at hlt3; simp at hlt3
      obtain ⟨b, cap, hvae, hat⟩ := hcell hna
      obtain ⟨LL, -, hfb, -⟩ := hva.out
      have hbn : h3.n ≤ b := hfb _ _ _ _ hvae
      obtain ⟨row', hat', hrl⟩ := o.int hat
      have lat' := at_lt hat'
      have hw3 := wrap_succ hlt3 (by omega)
      have y1 : slB va = b := by rw [hvae]; rfl
      have y2 : slO va = 0 := by rw [hvae]; rfl
      rw [iL_len] at hrl
      obtain ⟨row2, hput, hrl2⟩ := put_ok (l := row') (c := [.lit (.int .i64 (-5))]) (i := k) (by show k + 1 ≤ _; omega)
      have hput0 : put row' (0 + k) [.lit (.int .i64 (-5))] = some row2 := by rw [Nat.zero_add]; exact hput
      have ldh := ldq h o
      simp only [corem, WB_cond_s, put, ldL, WB_label, List.nil_append, List.drop_zero, List.take_zero, Nat.reduceAdd, Nat.reduceSub, Nat.reduceMul, Nat.reduceLT, Nat.reduceEqDiff, reduceCtorEq, Nat.reduceLeDiff, Int.reduceLE, Int.reduceLT, Int.reduceToNat, hn, g0, g4, g7, g8, g9, g40, g41, g49, g50, hlt, hlt3, hc3, hw3, q1, q2, ldh, hld, hld0, a1, a2, a3, y1, y2, hat', lat', hput, hput0, -put]
      refine ih2 _ _ ⟨o.put hbn hat' (by omega), ?_⟩
      simp only [core, Nat.reduceAdd, Nat.reduceSub, Nat.reduceMul, Nat.reduceLT, Nat.reduceEqDiff, reduceCtorEq, Nat.reduceLeDiff, Int.reduceLE, Int.reduceLT, Int.reduceToNat, hn, g0, g4, g7, g8, g9, g40, g41, g49, g50]
    · rintro t h hc3 ⟨o, hn, g0, g4, g7, g8, g9, g40, g41, g49, g50⟩
      simp only [core, Nat.reduceAdd, Nat.reduceSub, Nat.reduceMul, Nat.reduceLT, Nat.reduceEqDiff, reduceCtorEq, Nat.reduceLeDiff, Int.reduceLE, Int.reduceLT, Int.reduceToNat, hn, g0, g4, g7, g8, g9, g40, g41, g49, g50, hc3, hw]
      refine ih _ _ ⟨o, ?_⟩
      simp only [core, Nat.reduceAdd, Nat.reduceSub, Nat.reduceMul, Nat.reduceLT, Nat.reduceEqDiff, reduceCtorEq, Nat.reduceLeDiff, Int.reduceLE, Int.reduceLT, Int.reduceToNat, hn, g0, g4, g7, g8, g9, g40, g41, g49, g50]
    · refine ⟨o, ?_⟩
      simp only [core, Nat.reduceAdd, Nat.reduceSub, Nat.reduceMul, Nat.reduceLT, Nat.reduceEqDiff, reduceCtorEq, Nat.reduceLeDiff, Int.reduceLE, Int.reduceLT, Int.reduceToNat, hn, g0, g4, g7, g8, g40, g41]
      (repeat' apply And.intro) <;> first | rfl | trivial
  · rintro t h hc ⟨o, hn, g0, g4, g7, g8, g40, g41⟩
    have EHh : Ext H.n H h := ⟨by have := o.1; have := E8.1; omega, fun b hb => (hkeep h o b (by have := E3.1; omega)).trans (E3.2 b hb)⟩
    have P := (hkeep h o H.n lp3).trans P3
    have lp := at_lt P
    have LP := ld_at (T := tabOf Try.prog NT0) P
    unfold pgB at LP
    have hrh : IsSl RIv (fun _ => True) h r xs := hr.lift fun b _ hb => ⟨hkeep h o b hb, trivial⟩
    simp only [core, Nat.reduceAdd, Nat.reduceSub, Nat.reduceMul, Nat.reduceLT, Nat.reduceEqDiff, reduceCtorEq, Nat.reduceLeDiff, Int.reduceLE, Int.reduceLT, Int.reduceToNat, hn, g0, g4, g7, g8, g40, g41, hc, s1, r1, LP, lp]
    refine (all15_x pool seed (hv.ext EHh (Nat.le_refl _)) hl hok).mono ?_
    rintro w2 h9 ⟨e9, n9, hn9, hown9⟩
    have hs9 := hown9.toSl (F := fun _ => True) (fun _ _ => trivial) (fun _ _ => trivial)
    rw [← hxs] at hs9
    have w21 := hs9.isSl
    simp only [core, Nat.reduceAdd, Nat.reduceSub, Nat.reduceMul, Nat.reduceLT, Nat.reduceEqDiff, reduceCtorEq, Nat.reduceLeDiff, Int.reduceLE, Int.reduceLT, Int.reduceToNat, hn, g0, g4, g7, g8, g40, g41, r1, w21]
    refine (same15_x (hrh.ext e9 (Nat.le_refl _)) hs9 (by omega) (fun z hz => by have := hac z hz; omega)).mono ?_
    rintro _ h10 ⟨e10, rfl⟩
    rw [hself]
    simp only [core, Nat.reduceAdd, Nat.reduceSub, Nat.reduceMul, Nat.reduceLT, Nat.reduceEqDiff, reduceCtorEq, Nat.reduceLeDiff, Int.reduceLE, Int.reduceLT, Int.reduceToNat, hn, g0, g4, g7, g8, g40, g41]
    refine lives15_x.mono ?_
    rintro _ h11 ⟨e11, rfl⟩
    simp only [core, Nat.reduceAdd, Nat.reduceSub, Nat.reduceMul, Nat.reduceLT, Nat.reduceEqDiff, reduceCtorEq, Nat.reduceLeDiff, Int.reduceLE, Int.reduceLT, Int.reduceToNat, hn, g0, g4, g7, g8, g40, g41]
  · simp only [core, Nat.reduceAdd, Nat.reduceSub, Nat.reduceMul, Nat.reduceLT, Nat.reduceEqDiff, reduceCtorEq, Nat.reduceLeDiff, Int.reduceLE, Int.reduceLT, Int.reduceToNat]
    refine ⟨by rw [hh0]; exact Ovr.refl, ?_⟩
    (repeat' apply And.intro) <;> first | rfl | trivial
end Go.Proofs.Ytkgbeihcepociaa.Ex
namespace Go.Proofs.Ytkgbeihcepociaa
open Go.RowKit Go.ChangeShapes Go.WideShapes Go.ChangeAt
set_option maxRecDepth 100000 in
theorem intervalAsks_walk {H : Type} {enc : TypeId × Value → H} {W : World} {base : Nat} {v0 v1 v2 : Value} {d0 d1 d2 : DataW H} {p0 p1 p2 : List MemPlace}
    (k0 : Value.okWide Try.prog W .any base 33 v0) (h0 : DataW.Trod enc Try.prog W 0 (fun _ => true) true 33 v0 d0 p0)
    (k1 : Value.okWide Try.prog W .any base 56 v1) (h1 : DataW.Trod enc Try.prog W 0 (fun _ => true) true 56 v1 d1 p1)
    (k2 : Value.okWide Try.prog W .any base 3 v2) (h2 : DataW.Trod enc Try.prog W 0 (fun _ => true) true 3 v2 d2 p2)
    {ts : List TypeId} {ds : List (DataW H)} (hsz : (DataW.weightsEach Try.prog ([33, 56, 3] ++ ts) ([d0, d1, d2] ++ ds)).all (· ≤ reachBytes) = true) :
    Calls Try.prog 9 #[v0, v1, v2] W fun e w' => e = .returned (.bool true) ∧ Below W.heap.size W w' := by
  obtain ⟨v, ms, r0, i0, ok0⟩ := Ex.open_sl Ex.opensA_Mps Try.underlying33 k0 h0 (weights_le hsz (j := 0) rfl rfl)
  obtain ⟨c1, g, r1, i1, -⟩ := Ex.open_agg Ex.opensA_Pg Try.underlying56 rfl k1 h1 (weights_le hsz (j := 1) rfl rfl)
  obtain ⟨n, rfl, rfl, rfl, wf⟩ := open_int Try.underlying3 k2 h2
  obtain ⟨rfl, -⟩ := Ex.RPg_is.1 i1
  exact Ex.law_join (Ex.rels_cons r0 (Ex.rels_cons r1 (Ex.rels_cons (Ex.rel_lit rfl) Ex.rels_nil))) (Ex.intervalAsks_m g.pool g.seed n i0 (fun b hb => hb) ok0.1 ok0.2)
end Go.Proofs.Ytkgbeihcepociaa
end
