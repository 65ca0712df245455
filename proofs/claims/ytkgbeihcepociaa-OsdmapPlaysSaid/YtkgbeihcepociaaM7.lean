/- Part 7 of the proof: OsdmapPlaysWalk. -/
import Derived.Test.YtkgbeihcepociaaM6
section

set_option linter.unusedSimpArgs false
set_option linter.unusedVariables false
set_option maxRecDepth 10000
set_option maxHeartbeats 4000000
namespace Go.Proofs.Ytkgbeihcepociaa.Ex
open Go
theorem chgN_succ {l : List IncD} {i : Nat} {x : IncD} (hx : l[i]? = some x) : chgN (l.take (i + 1)) = chgN (l.take i) + x.changes.length := by
  unfold chgN
  rw [List.take_add_one, hx, List.map_append, List.sum_append]
  rfl
theorem flat_bound {α : Type} {f : α → List UInt8} {k : Nat} : ∀ {l : List α}, (∀ x ∈ l, (f x).length ≤ k) → (l.flatMap f).length ≤ l.length * k
  | [], _ => by simp
  | x :: r, h => by
    have h1 := flat_bound (l := r) fun y hy => h y (by simp [hy])
    have h2 := h x (by simp)
    rw [List.flatMap_cons, List.length_append, List.length_cons, Nat.succ_mul]
    omega
theorem enc_st {m : MapD} {k : Nat} (h : StOk m k) (hk : k ≤ 60000) : (encMap m).length ≤ 140737488355328 := by
  rw [encMap_len]
  have h1 := flat_bound (f := encOsd) (k := 34) (l := m.osds) fun x _ => by rw [encOsd_len]; omega
  have h2 := flat_bound (f := encPool) (k := 32) (l := m.pools) fun x _ => by rw [encPool_len]; omega
  have h3 := flat_bound (f := encBkt) (k := 10000) (l := m.buckets) fun x hx => by
    have := h.ni x hx
    rw [encBkt_len]
    omega
  have := h.no
  have := h.np
  have := h.nb
  have h4 : m.buckets.length * 10000 ≤ 60000 * 10000 := Nat.mul_le_mul_right _ (by omega)
  have h5 : m.pools.length * 32 ≤ 60000 * 32 := Nat.mul_le_mul_right _ (by omega)
  have h6 : m.osds.length * 34 ≤ 8 * 34 := Nat.mul_le_mul_right _ (by omega)
  omega
theorem sumC_bound {k : Nat} : ∀ {l : List ChD}, (∀ c ∈ l, c.bucket.items.length ≤ k) → sumC l ≤ l.length * k
  | [], _ => by simp [sumC]
  | x :: r, h => by
    have h1 := sumC_bound (l := r) fun y hy => h y (by simp [hy])
    have h2 := h x (by simp)
    unfold sumC at h1 ⊢
    rw [List.map_cons, List.sum_cons, List.length_cons, Nat.succ_mul]
    omega
theorem sumC_mem : ∀ {l : List ChD} {c : ChD}, c ∈ l → c.bucket.items.length ≤ sumC l
  | x :: r, c, hc => by
    have e : sumC (x :: r) = x.bucket.items.length + sumC r := by unfold sumC; rw [List.map_cons, List.sum_cons]
    rcases List.mem_cons.1 hc with rfl | hc
    · omega
    · have := sumC_mem hc
      omega
theorem wide_no {l : List ChD} (hw : wideF map0 l = false) (hl : ∀ c ∈ l, Sm 8 c.bucket.items) : l.length ≤ 300 ∧ ∀ c ∈ l, c.bucket.items.length ≤ 300 := by
  unfold wideF at hw
  simp only [Bool.or_eq_false_iff, decide_eq_false_iff_not] at hw
  have h1 : l.length ≤ 300 := by omega
  have h2 := sumC_bound (k := 17592186044416) (l := l) fun c hc => by have := hl c hc; unfold Sm at this; omega
  have h3 : l.length * 17592186044416 ≤ 300 * 17592186044416 := Nat.mul_le_mul_right _ h1
  have h4 : IntKind.i64.wrap ((sumB map0.buckets + sumC l : Nat) : Int) = ((sumB map0.buckets + sumC l : Nat) : Int) := wrap_in (by omega) (by have : sumB map0.buckets = 0 := rfl; omega)
  rw [h4] at hw
  refine ⟨h1, fun c hc => ?_⟩
  have := sumC_mem hc
  omega
theorem playD_no {l : List IncD} (h : (playD l).2 ≠ 0) : (playD l).1 = [] := by
  have key : ∀ (l : List IncD) (ms : List MapD), (playC ms l).2 ≠ 0 → (playC ms l).1 = [] := by
    intro l
    induction l with
    | nil => intro ms h; exact absurd rfl h
    | cons x r ih =>
      intro ms h
      have e1 : playC ms (x :: r) = if (applyD (ms.getLastD map0) x).2 = 0 then playC (ms ++ [(applyD (ms.getLastD map0) x).1]) r else ([], (applyD (ms.getLastD map0) x).2) := rfl
      rw [e1] at h ⊢
      by_cases hz : (applyD (ms.getLastD map0) x).2 = 0
      · rw [if_pos hz] at h ⊢
        exact ih _ h
      · rw [if_neg hz]
  exact key l _ h
theorem IsSl.loadExt {α : Type} {R : Rep α} {F : Nat → Prop} {T : TT} {h h' : AH} {v : AV} {xs : List α} (hs : IsSl R F h v xs) {i : Nat} {x : α} (hx : xs[i]? = some x) (he : Ext h.n h h') (e : TypeId) (off : Nat) : loadA T h' e (slB v) off = loadA T h e (slB v) off := by
  have hlt : slB v < h.n := by
    obtain ⟨L, r1, _, _, r3⟩ := hs.out
    rcases r1.2 with ⟨hh, h0⟩ | ⟨b, off, cap, row, hh, h1, h2⟩
    · have h4 := r3.1
      rw [h0] at h4
      have := (List.getElem?_eq_some_iff.1 hx).1
      simp at h4
      omega
    · rw [hh]
      exact getR_lt h1
  unfold loadA getR
  rw [he.2 _ hlt]
theorem plays_m {F : Nat → Prop} {H : AH} {v : AV} {l : List IncD} (hl : IsSl RInc F H v l) (sl : Sm 32 l) (hok : ∀ x ∈ l, OkInc x) :
    WC Try.prog (tabOf Try.prog NT0) S0 3 [v] H fun r h' => r = .lit (.bool true) := by
  refine WC_fn Try.func3 rfl rfl ?_
  have s1 := hl.isSl
  have d1 := hl.lenD
  have c1 := hl.one
  unfold Sm at sl
  obtain ⟨N, hN⟩ : ∃ N, N = l.length := ⟨_, rfl⟩
  rw [← hN] at d1
  simp only [core, Nat.reduceAdd, Nat.reduceSub, Nat.reduceMul, Nat.reduceLT, Nat.reduceEqDiff, reduceCtorEq, Nat.reduceLeDiff, Int.reduceLE, Int.reduceLT, Int.reduceToNat, Try.ntmps3, s1, d1, c1]
  refine WB_for N (fun i t h => Ext H.n H h ∧ (∀ x ∈ l.take i, wideF map0 x.changes = false) ∧ t.n = 130 ∧ t.get 0 = v ∧ t.get 2 = .lit (.bool false) ∧ t.get 3 = .lit (.int .i64 (chgN (l.take i) : Int)) ∧ t.get 14 = v ∧ t.get 15 = .lit (.int .i64 N) ∧ t.get 16 = .lit (.int .i64 i)) ?_ ?_ _ _ ?_
  · rintro i t h hlt hc ⟨EH, hnw, hn, g0, g2, g3, g14, g15, g16⟩ ih
    obtain ⟨x, hx⟩ : ∃ x, l[i]? = some x := ⟨_, List.getElem?_eq_getElem (by omega)⟩
    have hxm := List.mem_of_getElem? hx
    obtain ⟨cc, hc1, hld, hld0⟩ := hl.atE (T := tabOf Try.prog NT0) EH RInc_z hx
    obtain ⟨vc, rfl, hcs, hex⟩ := RInc_is.1 hc1
    have v1 := hcs.one
    have v2 := hcs.isSl
    have v3 := hcs.lenD
    obtain ⟨k1, k2⟩ := hok x hxm
    have hwi := wrap_succ (n := N) hlt (by omega)
    have hbnd : chgN (l.take i) ≤ i * 300 := by
      have : ∀ (q : List IncD), (∀ x ∈ q, x.changes.length ≤ 300) → chgN q ≤ q.length * 300 := by
        intro q
        induction q with
        | nil => intro _; simp [chgN]
        | cons a r ih =>
          intro h
          have h1 := ih fun y hy => h y (by simp [hy])
          have h2 := h a (by simp)
          unfold chgN at h1 ⊢
          rw [List.map_cons, List.sum_cons, List.length_cons, Nat.succ_mul]
          omega
      have h1 := this (l.take i) fun y hy => (wide_no (hnw y hy) fun c hc => ((hok y (List.mem_of_mem_take hy)).2 c hc).2.1).1
      rw [List.length_take] at h1
      have h2 : min i l.length * 300 ≤ i * 300 := Nat.mul_le_mul_right _ (by omega)
      omega
    have hsum : IntKind.i64.wrap ((chgN (l.take i) : Int) + (x.changes.length : Int)) = (chgN (l.take (i + 1)) : Int) := by
      rw [chgN_succ hx]
      unfold Sm at k1
      exact (wrap_in (by omega) (by omega)).trans (by omega)
    obtain ⟨hA, hhA⟩ : ∃ hA, hA = h.push (.cells [.lit (.int .i64 x.epoch), vc] 25) := ⟨_, rfl⟩
    have eA : Ext h.n h hA := hhA ▸ (Ext.refl _ _).push _ (Nat.le_refl _)
    have XA : hA.at h.n = some (.cells [.lit (.int .i64 x.epoch), vc] 25) := hhA ▸ at_push_n _ _
    have LXA := ld_at (T := tabOf Try.prog NT0) XA
    have lXA := at_lt XA
    have EA := EH.step eA
    simp only [core, Nat.reduceAdd, Nat.reduceSub, Nat.reduceMul, Nat.reduceLT, Nat.reduceEqDiff, reduceCtorEq, Nat.reduceLeDiff, Int.reduceLE, Int.reduceLT, Int.reduceToNat, s1, d1, hn, g0, g2, g3, g14, g15, g16, hlt, hc, hld, hld0, v1, v2, v3, ← hhA, LXA, lXA, hsum]
    refine (wide_x (F := F) (m := map0) (l := x.changes) at0 (hcs.ext EA (Nat.le_refl _)) (by unfold Sm map0; simp) k1).mono ?_
    rintro _ h2 ⟨e2, rfl⟩
    have E2 := EA.step e2
    by_cases hw : wideF map0 x.changes = true
    · simp only [core, Nat.reduceAdd, Nat.reduceSub, Nat.reduceMul, Nat.reduceLT, Nat.reduceEqDiff, reduceCtorEq, Nat.reduceLeDiff, Int.reduceLE, Int.reduceLT, Int.reduceToNat, hn, g0, g2, g3, g14, g15, g16, hw]
      refine awake10_c ?_
      simp only [core, Nat.reduceAdd, Nat.reduceSub, Nat.reduceMul, Nat.reduceLT, Nat.reduceEqDiff, reduceCtorEq, Nat.reduceLeDiff, Int.reduceLE, Int.reduceLT, Int.reduceToNat, hn, g0, g2, g3, g14, g15, g16]
      try simp
    · have hw : wideF map0 x.changes = false := by simpa using hw
      simp only [core, Nat.reduceAdd, Nat.reduceSub, Nat.reduceMul, Nat.reduceLT, Nat.reduceEqDiff, reduceCtorEq, Nat.reduceLeDiff, Int.reduceLE, Int.reduceLT, Int.reduceToNat, hn, g0, g2, g3, g14, g15, g16, hw, hwi]
      refine ih _ _ ⟨E2, fun y hy => ?_, ?_⟩
      · rw [List.take_add_one, hx, List.mem_append] at hy
        rcases hy with hy | hy
        · exact hnw y hy
        · simp only [Option.toList_some, List.mem_singleton] at hy
          rw [hy]; exact hw
      · simp only [core, Nat.reduceAdd, Nat.reduceSub, Nat.reduceMul, Nat.reduceLT, Nat.reduceEqDiff, reduceCtorEq, Nat.reduceLeDiff, Int.reduceLE, Int.reduceLT, Int.reduceToNat, hn, g0, g2, g3, g14, g15, g16]
  · rintro t h hc ⟨EH, hnw, hn, g0, g2, g3, g14, g15, g16⟩
    rw [hN, List.take_length] at hnw
    rw [hN, List.take_length] at g3
    by_cases c100 : (100 : Int) < (N : Int)
    · simp only [core, Nat.reduceAdd, Nat.reduceSub, Nat.reduceMul, Nat.reduceLT, Nat.reduceEqDiff, reduceCtorEq, Nat.reduceLeDiff, Int.reduceLE, Int.reduceLT, Int.reduceToNat, s1, d1, hn, g0, g2, g3, g14, g15, g16, hc, c100]
      refine awake10_c ?_
      simp only [core, Nat.reduceAdd, Nat.reduceSub, Nat.reduceMul, Nat.reduceLT, Nat.reduceEqDiff, reduceCtorEq, Nat.reduceLeDiff, Int.reduceLE, Int.reduceLT, Int.reduceToNat, hn, g0, g2, g3, g14, g15, g16]
      try simp
    by_cases c300 : (300 : Int) < (chgN l : Int)
    · simp only [core, Nat.reduceAdd, Nat.reduceSub, Nat.reduceMul, Nat.reduceLT, Nat.reduceEqDiff, reduceCtorEq, Nat.reduceLeDiff, Int.reduceLE, Int.reduceLT, Int.reduceToNat, s1, d1, hn, g0, g2, g3, g14, g15, g16, hc, c100, c300]
      refine awake10_c ?_
      simp only [core, Nat.reduceAdd, Nat.reduceSub, Nat.reduceMul, Nat.reduceLT, Nat.reduceEqDiff, reduceCtorEq, Nat.reduceLeDiff, Int.reduceLE, Int.reduceLT, Int.reduceToNat, hn, g0, g2, g3, g14, g15, g16]
      try simp
    have hit : ∀ x ∈ l, ∀ c ∈ x.changes, c.bucket.items.length ≤ 300 := fun x hx => (wide_no (hnw x hx) fun c hc => ((hok x hx).2 c hc).2.1).2
    have hsz : ∀ x ∈ l, Sm 88 x.changes ∧ ∀ c ∈ x.changes, Sm 8 c.bucket.items ∧ Sm 8 c.bucket.weights := fun x hx => ⟨(hok x hx).1, fun c hc => ((hok x hx).2 c hc).2⟩
    simp only [core, Nat.reduceAdd, Nat.reduceSub, Nat.reduceMul, Nat.reduceLT, Nat.reduceEqDiff, reduceCtorEq, Nat.reduceLeDiff, Int.reduceLE, Int.reduceLT, Int.reduceToNat, s1, d1, c1, hn, g0, g2, g3, g14, g15, g16, hc, c100, c300]
    refine (Play_x l (hl.ext EH (Nat.le_refl _)) (by omega) (by omega) hit hsz).mono ?_
    rintro _ h1 ⟨e1, rv, rfl, i1⟩
    have E1 := EH.step e1
    have r1 := i1.one
    simp only [core, Nat.reduceAdd, Nat.reduceSub, Nat.reduceMul, Nat.reduceLT, Nat.reduceEqDiff, reduceCtorEq, Nat.reduceLeDiff, Int.reduceLE, Int.reduceLT, Int.reduceToNat, r1, c1, hn, g0, g2, g3, g14, g15, g16]
    refine (Play10_x l (hl.ext E1 (Nat.le_refl _)) (by omega) (by omega) hit hsz).mono ?_
    rintro _ h2 ⟨e2, rv2, rfl, i2⟩
    have r2 := i2.one
    have i1' := i1.ext e2 (Nat.le_refl _)
    simp only [core, Nat.reduceAdd, Nat.reduceSub, Nat.reduceMul, Nat.reduceLT, Nat.reduceEqDiff, reduceCtorEq, Nat.reduceLeDiff, Int.reduceLE, Int.reduceLT, Int.reduceToNat, r1, r2, c1, hn, g0, g2, g3, g14, g15, g16]
    refine (num_x _).mono ?_
    rintro _ h3 ⟨rfl, rfl⟩
    have hpl : (playD l).1 ≠ [] → PlOk (playD l).1 (chgN l) := fun hne => by
      have h0 : (playD l).2 = 0 := Decidable.byContradiction fun hh => hne (playD_no hh)
      have := playC_ok plOk0 (r := l) hit h0
      rw [Nat.zero_add] at this
      exact this
    obtain ⟨ms, hms⟩ : ∃ ms, ms = (playD l).1 := ⟨_, rfl⟩
    obtain ⟨er, her⟩ : ∃ er, er = (playD l).2 := ⟨_, rfl⟩
    rw [← hms] at i1' i2 hpl
    rw [← her]
    have hee : (er != er) = false := by simp
    obtain ⟨M, hM⟩ : ∃ M, M = ms.length := ⟨_, rfl⟩
    have t1 := i1'.isSl
    have t2 := i1'.lenD
    have t3 := i2.isSl
    have t4 := i2.lenD
    rw [← hM] at t2 t4
    have hMM : ((M : Int) != (M : Int)) = false := by simp
    simp only [core, Nat.reduceAdd, Nat.reduceSub, Nat.reduceMul, Nat.reduceLT, Nat.reduceEqDiff, reduceCtorEq, Nat.reduceLeDiff, Int.reduceLE, Int.reduceLT, Int.reduceToNat, hn, g0, g2, g3, g14, g15, g16, hee, t1, t2, t3, t4, hMM]
    have hMl : ms ≠ [] → M ≤ 101 := fun hne => by
      have h0 : (playD l).2 = 0 := Decidable.byContradiction fun hh => hne (hms.trans (playD_no hh))
      have := playC_len (r := l) (l := [map0]) h0
      rw [show (playC [map0] l).1 = ms from hms.symm] at this
      simp only [List.length_singleton] at this
      omega
    refine WB_for M (fun i t h => Ext h3.n h3 h ∧ t.n = 130 ∧ t.get 2 = .lit (.bool false) ∧ t.get 6 = rv ∧ t.get 8 = rv2 ∧ t.get 60 = rv ∧ t.get 61 = .lit (.int .i64 M) ∧ t.get 62 = .lit (.int .i64 i)) ?_ ?_ _ _ ?_
    · rintro i t h hlt hc ⟨E3, hn, g2, g6, g8, g60, g61, g62⟩ ih
      obtain ⟨n, hx⟩ : ∃ n, ms[i]? = some n := ⟨_, List.getElem?_eq_getElem (by omega)⟩
      have hne : ms ≠ [] := fun hh => by rw [hh] at hx; simp at hx
      have hM1 := hMl hne
      have pok := hpl hne
      obtain ⟨hep, hst⟩ := pok.st i n hx
      have hwi := wrap_succ (n := M) hlt (by omega)
      have hiM : i < M := hlt
      obtain ⟨ca, hca, ld1, ld1'⟩ := (i1'.ext E3 (Nat.le_refl _)).at (T := tabOf Try.prog NT0) RMp_z hx
      obtain ⟨vo, vp, vb, rfl, a1, a2, a3, -⟩ := RMp_is.1 hca
      obtain ⟨cb, hcb, ld2, ld2'⟩ := (i2.ext E3 (Nat.le_refl _)).at (T := tabOf Try.prog NT0) RMp_z hx
      obtain ⟨wo, wp, wb, rfl, b1, b2, b3, -⟩ := RMp_is.1 hcb
      have x1 := a1.one
      have x2 := a2.one
      have x3 := a3.one
      have y1 := b1.one
      have y2 := b2.one
      have y3 := b3.one
      have x4 := a1.isSl
      have x5 := a2.isSl
      have x6 := a3.isSl
      have y4 := b1.isSl
      have y5 := b2.isSl
      have y6 := b3.isSl
      simp only [core, Nat.reduceAdd, Nat.reduceSub, Nat.reduceMul, Nat.reduceLT, Nat.reduceEqDiff, reduceCtorEq, Nat.reduceLeDiff, Int.reduceLE, Int.reduceLT, Int.reduceToNat, hn, g2, g6, g8, g60, g61, g62, hlt, hc]
      rw [WB_regionD [0, 1, 2, 3, 5, 6, 7, 8, 4, 9, 10, 11, 12, 13, 14, 15, 16, 17, 18, 19, 20, 21, 22, 23, 24, 25, 26, 27] 50872912564235076117878572483949461811587711101595300564622478973695691384011133594274330199516764243022835869560330331826966873693537335185237797511548083813926361164439155274812404831503723863149056283965097181150020496333698504851456 (by kernel_rfl)]
      repeat ((with_reducible refine WDM_cons ?_; simp only [dw1]; try simp only [dw2, Nat.reduceAdd, Nat.reduceMul, Nat.reduceShiftRight, Nat.reduceMod, Nat.reduceEqDiff]); simp only [core, Nat.reduceAdd, Nat.reduceSub, Nat.reduceMul, Nat.reduceLT, Nat.reduceEqDiff, reduceCtorEq, Nat.reduceLeDiff, Int.reduceLE, Int.reduceLT, Int.reduceToNat, cored, hn, g2, g6, g8, g60, g61, g62, t1, t2, t3, t4, hlt, hc, ld1, ld1', ld2, ld2', x1, x2, x3, y1, y2, y3])
      refine ⟨by simp only [same_sl, x4, x5, x6, y4, y5, y6, Bool.and_self], ?_⟩
      have hsz2 : ∀ b ∈ n.buckets, Sm 8 b.items ∧ Sm 8 b.weights := (hst.ok (by omega)).2.2.2
      have hc6 : chgN l ≤ 60000 := by omega
      have okn := hst.ok (k := chgN l) (by omega)
      have mA : MpAt (fun k => k < h.n) h n vo vp vb := ⟨a1.lift fun _ _ hlt => ⟨rfl, hlt⟩, a2.lift fun _ _ hlt => ⟨rfl, hlt⟩, a3.lift fun _ _ hlt => ⟨rfl, hlt⟩⟩
      have mB : MpAt (fun k => k < h.n) h n wo wp wb := ⟨b1.lift fun _ _ hlt => ⟨rfl, hlt⟩, b2.lift fun _ _ hlt => ⟨rfl, hlt⟩, b3.lift fun _ _ hlt => ⟨rfl, hlt⟩⟩
      refine (bytes_x n mA (fun k hk => hk) okn.1.1 okn.2.1.1 okn.2.2.1 hsz2 (enc_st hst hc6)).mono ?_
      rintro _ h4 ⟨e4, rfl⟩
      have lk2 := (i2.ext E3 (Nat.le_refl _)).loadExt (T := tabOf Try.prog NT0) hx e4
      have f4 := e4.1
      repeat ((with_reducible refine WDM_cons ?_; simp only [dw1]; try simp only [dw2, Nat.reduceAdd, Nat.reduceMul, Nat.reduceShiftRight, Nat.reduceMod, Nat.reduceEqDiff]); simp only [core, Nat.reduceAdd, Nat.reduceSub, Nat.reduceMul, Nat.reduceLT, Nat.reduceEqDiff, reduceCtorEq, Nat.reduceLeDiff, Int.reduceLE, Int.reduceLT, Int.reduceToNat, cored, hn, g2, g6, g8, g60, g61, g62, t1, t2, t3, t4, hlt, hc, lk2, ld2', x1, x2, x3, y1, y2, y3])
      refine ⟨by simp only [same_sl, x4, x5, x6, y4, y5, y6, Bool.and_self], ?_⟩
      refine (bytes_x n (mB.ext e4 (Nat.le_refl _)) (fun k hk => Nat.lt_of_lt_of_le hk f4) okn.1.1 okn.2.1.1 okn.2.2.1 hsz2 (enc_st hst hc6)).mono ?_
      rintro _ h5 ⟨e5, rfl⟩
      have e45 := e4.trans (e5.mono f4)
      have lk1 := (i1'.ext E3 (Nat.le_refl _)).loadExt (T := tabOf Try.prog NT0) hx e45
      have hse : ∀ (P : Program) (t : TypeId), pur P (binOp .neq t (Value.string (baL (encMap n))) (Value.string (baL (encMap n)))) = some (.ok (Value.bool false)) := fun P t => by
        show pur P (pure (Value.bool !((baL (encMap n)).toList == (baL (encMap n)).toList))) = _
        rw [beq_self_eq_true]
        rfl
      have hepn : (n.epoch != (i : Int)) = false := by rw [hep]; simp
      repeat ((with_reducible refine WDM_cons ?_; simp only [dw1]; try simp only [dw2, Nat.reduceAdd, Nat.reduceMul, Nat.reduceShiftRight, Nat.reduceMod, Nat.reduceEqDiff]); simp only [core, Nat.reduceAdd, Nat.reduceSub, Nat.reduceMul, Nat.reduceLT, Nat.reduceEqDiff, reduceCtorEq, Nat.reduceLeDiff, Int.reduceLE, Int.reduceLT, Int.reduceToNat, cored, hn, g2, g6, g8, g60, g61, g62, t1, t2, t3, t4, hlt, hc, hse, lk1, ld1, ld1', hepn, x1, x2, x3, y1, y2, y3])
      refine ⟨by simp only [same_sl, x4, x5, x6, y4, y5, y6, Bool.and_self], ?_⟩
      refine (good_x (mA.ext e45 (Nat.le_refl _)) ⟨okn.2.2.1, hsz2, trivial⟩).mono ?_
      rintro _ h6 ⟨e6, rfl⟩
      have hg := hst.good
      have e46 := e45.trans (e6.mono e45.1)
      have E6 : Ext h3.n h3 h6 := E3.trans (e46.mono E3.1)
      have lk6 := (i1'.ext E3 (Nat.le_refl _)).loadExt (T := tabOf Try.prog NT0) hx e46
      by_cases i0 : i = 0
      · have i0e : ((i : Int) == 0) = true := by rw [i0]; rfl
        repeat (first | ((with_reducible refine WDM_cons ?_; simp only [dw1]; try simp only [dw2, Nat.reduceAdd, Nat.reduceMul, Nat.reduceShiftRight, Nat.reduceMod, Nat.reduceEqDiff]); simp only [core, Nat.reduceAdd, Nat.reduceSub, Nat.reduceMul, Nat.reduceLT, Nat.reduceEqDiff, reduceCtorEq, Nat.reduceLeDiff, Int.reduceLE, Int.reduceLT, Int.reduceToNat, cored, hn, g2, g6, g8, g60, g61, g62, hg, i0e, hwi]) | simp only [core, Nat.reduceAdd, Nat.reduceSub, Nat.reduceMul, Nat.reduceLT, Nat.reduceEqDiff, reduceCtorEq, Nat.reduceLeDiff, Int.reduceLE, Int.reduceLT, Int.reduceToNat, cored, hn, g2, g6, g8, g60, g61, g62, hg, i0e, hwi])
        refine ih _ _ ⟨E6, ?_⟩
        simp only [core, Nat.reduceAdd, Nat.reduceSub, Nat.reduceMul, Nat.reduceLT, Nat.reduceEqDiff, reduceCtorEq, Nat.reduceLeDiff, Int.reduceLE, Int.reduceLT, Int.reduceToNat, hn, g2, g6, g8, g60, g61, g62]
      · have i0e : ((i : Int) == 0) = false := by simp [i0]
        obtain ⟨n0, hx0⟩ : ∃ n0, ms[i - 1]? = some n0 := ⟨_, List.getElem?_eq_getElem (by omega)⟩
        have hi1 : IntKind.i64.wrap ((i : Int) - 1) = ((i - 1 : Nat) : Int) := (wrap_in (by omega) (by omega)).trans (by omega)
        have hri := pok.ri (i - 1) n0 n hx0 (by rw [show i - 1 + 1 = i by omega]; exact hx)
        have hi1M : i - 1 < M := by omega
        obtain ⟨ce, hce, ld3, ld3'⟩ := (i1'.ext E3 (Nat.le_refl _)).at (T := tabOf Try.prog NT0) RMp_z hx0
        obtain ⟨uo, up, ub, rfl, d1', d2', d3', -⟩ := RMp_is.1 hce
        have u1 := d1'.isSl
        have u2 := d1'.lenD
        have v4 := a1.lenD
        have hst0 := (pok.st _ _ hx0).2
        obtain ⟨K, hK⟩ : ∃ K, K = n0.osds.length := ⟨_, rfl⟩
        rw [← hK] at u2
        have hK8 : K ≤ 8 := by have := hst0.no; omega
        repeat (first | ((with_reducible refine WDM_cons ?_; simp only [dw1]; try simp only [dw2, Nat.reduceAdd, Nat.reduceMul, Nat.reduceShiftRight, Nat.reduceMod, Nat.reduceEqDiff]); simp only [core, Nat.reduceAdd, Nat.reduceSub, Nat.reduceMul, Nat.reduceLT, Nat.reduceEqDiff, reduceCtorEq, Nat.reduceLeDiff, Int.reduceLE, Int.reduceLT, Int.reduceToNat, cored, hn, g2, g6, g8, g60, g61, g62, t1, t2, hg, i0e, hi1, hi1M, lk6, ld3, ld3', u1, u2]) | simp only [core, Nat.reduceAdd, Nat.reduceSub, Nat.reduceMul, Nat.reduceLT, Nat.reduceEqDiff, reduceCtorEq, Nat.reduceLeDiff, Int.reduceLE, Int.reduceLT, Int.reduceToNat, cored, hn, g2, g6, g8, g60, g61, g62, t1, t2, hg, i0e, hi1, hi1M, lk6, ld3, ld3', u1, u2])
        refine WB_for K (fun k t h' => Ext h6.n h6 h' ∧ t.n = 130 ∧ t.get 2 = .lit (.bool false) ∧ t.get 6 = rv ∧ t.get 8 = rv2 ∧ t.get 10 = .lit (.int .i64 i) ∧ t.get 60 = rv ∧ t.get 61 = .lit (.int .i64 M) ∧ t.get 62 = .lit (.int .i64 i) ∧ t.get 100 = uo ∧ t.get 101 = .lit (.int .i64 K) ∧ t.get 102 = .lit (.int .i64 k)) ?_ ?_ _ _ ?_
        · rintro k t h' hk hck ⟨E7, hn, g2, g6, g8, g10, g60, g61, g62, g100, g101, g102⟩ ih2
          have e7 : Ext h.n h h' := e46.trans (E7.mono e46.1)
          obtain ⟨o, hxo⟩ : ∃ o, n0.osds[k]? = some o := ⟨_, List.getElem?_eq_getElem (by omega)⟩
          have hkn : k < n.osds.length := by have := hri.1; omega
          obtain ⟨p, hxp⟩ : ∃ p, n.osds[k]? = some p := ⟨_, List.getElem?_eq_getElem hkn⟩
          have hmono := hri.2 k
          rw [List.getD_eq_getElem?_getD, List.getD_eq_getElem?_getD, hxo, hxp] at hmono
          simp only [Option.getD_some] at hmono
          have c1' : ¬ p.boot < o.boot := by omega
          have c2' : ¬ p.upThru < o.upThru := by omega
          obtain ⟨co, hco, l1, l1'⟩ := (d1'.ext e7 (Nat.le_refl _)).at (T := tabOf Try.prog NT0) ROsd_z hxo
          obtain ⟨rfl, -⟩ := ROsd_is.1 hco
          obtain ⟨hA, hhA⟩ : ∃ hA, hA = h'.push (.cells [.lit (.bool o.ex), .lit (.bool o.up), .lit (.int .i64 o.weight), .lit (.int .i64 o.boot), .lit (.int .i64 o.upFrom), .lit (.int .i64 o.upThru)] 43) := ⟨_, rfl⟩
          have eA : Ext h'.n h' hA := hhA ▸ (Ext.refl _ _).push _ (Nat.le_refl _)
          have XA : hA.at h'.n = some (.cells [.lit (.bool o.ex), .lit (.bool o.up), .lit (.int .i64 o.weight), .lit (.int .i64 o.boot), .lit (.int .i64 o.upFrom), .lit (.int .i64 o.upThru)] 43) := hhA ▸ at_push_n _ _
          have nA : hA.n = h'.n + 1 := by rw [hhA, n_push]
          have e7A := e7.trans (eA.mono e7.1)
          have lkA := (i1'.ext E3 (Nat.le_refl _)).loadExt (T := tabOf Try.prog NT0) hx e7A
          obtain ⟨cp, hcp, l2, l2'⟩ := (a1.ext e7A (Nat.le_refl _)).at (T := tabOf Try.prog NT0) ROsd_z hxp
          obtain ⟨rfl, -⟩ := ROsd_is.1 hcp
          obtain ⟨hB, hhB⟩ : ∃ hB, hB = hA.push (.cells [.lit (.bool p.ex), .lit (.bool p.up), .lit (.int .i64 p.weight), .lit (.int .i64 p.boot), .lit (.int .i64 p.upFrom), .lit (.int .i64 p.upThru)] 43) := ⟨_, rfl⟩
          have eB : Ext hA.n hA hB := hhB ▸ (Ext.refl _ _).push _ (Nat.le_refl _)
          have YB : hB.at hA.n = some (.cells [.lit (.bool p.ex), .lit (.bool p.up), .lit (.int .i64 p.weight), .lit (.int .i64 p.boot), .lit (.int .i64 p.upFrom), .lit (.int .i64 p.upThru)] 43) := hhB ▸ at_push_n _ _
          have XB := (eB.2 _ (at_lt XA)).trans XA
          have LXB := ld_at (T := tabOf Try.prog NT0) XB
          have LYB := ld_at (T := tabOf Try.prog NT0) YB
          have hwk := wrap_succ (n := K) hk (by omega)
          have f6 := E7.1
          have E8 : Ext h6.n h6 hB := (E7.trans (eA.mono f6)).trans (eB.mono (by omega))
          simp only [core, Nat.reduceAdd, Nat.reduceSub, Nat.reduceMul, Nat.reduceLT, Nat.reduceEqDiff, reduceCtorEq, Nat.reduceLeDiff, Int.reduceLE, Int.reduceLT, Int.reduceToNat, hn, g2, g6, g8, g10, g60, g61, g62, g100, g101, g102, hk, hck, u1, u2, l1, l1', ← hhA, t1, t2, hlt, lkA, ld1, ld1', x4, v4, hkn, l2, l2', ← hhB, LXB, LYB, c1', c2', hwk]
          refine ih2 _ _ ⟨E8, ?_⟩
          simp only [core, Nat.reduceAdd, Nat.reduceSub, Nat.reduceMul, Nat.reduceLT, Nat.reduceEqDiff, reduceCtorEq, Nat.reduceLeDiff, Int.reduceLE, Int.reduceLT, Int.reduceToNat, hn, g2, g6, g8, g10, g60, g61, g62, g100, g101, g102]
        · rintro t h' hck ⟨E7, hn, g2, g6, g8, g10, g60, g61, g62, g100, g101, g102⟩
          simp only [core, Nat.reduceAdd, Nat.reduceSub, Nat.reduceMul, Nat.reduceLT, Nat.reduceEqDiff, reduceCtorEq, Nat.reduceLeDiff, Int.reduceLE, Int.reduceLT, Int.reduceToNat, hn, g2, g6, g8, g10, g60, g61, g62, g100, g101, g102, hck, hwi]
          refine ih _ _ ⟨E6.trans (E7.mono E6.1), ?_⟩
          simp only [core, Nat.reduceAdd, Nat.reduceSub, Nat.reduceMul, Nat.reduceLT, Nat.reduceEqDiff, reduceCtorEq, Nat.reduceLeDiff, Int.reduceLE, Int.reduceLT, Int.reduceToNat, hn, g2, g6, g8, g10, g60, g61, g62, g100, g101, g102]
        · refine ⟨Ext.refl _ _, ?_⟩
          simp only [core, Nat.reduceAdd, Nat.reduceSub, Nat.reduceMul, Nat.reduceLT, Nat.reduceEqDiff, reduceCtorEq, Nat.reduceLeDiff, Int.reduceLE, Int.reduceLT, Int.reduceToNat, hn, g2, g6, g8, g60, g61, g62]
          try (repeat' apply And.intro) <;> first | rfl | trivial
    · rintro t h hc ⟨E3, hn, g2, g6, g8, g60, g61, g62⟩
      simp only [core, Nat.reduceAdd, Nat.reduceSub, Nat.reduceMul, Nat.reduceLT, Nat.reduceEqDiff, reduceCtorEq, Nat.reduceLeDiff, Int.reduceLE, Int.reduceLT, Int.reduceToNat, hn, g2, g6, g8, g60, g61, g62, hc]
      refine awake10_c ?_
      simp only [core, Nat.reduceAdd, Nat.reduceSub, Nat.reduceMul, Nat.reduceLT, Nat.reduceEqDiff, reduceCtorEq, Nat.reduceLeDiff, Int.reduceLE, Int.reduceLT, Int.reduceToNat, hn, g2, g6, g8, g60, g61, g62]
      try simp
    · refine ⟨Ext.refl _ _, ?_⟩
      simp only [core, Nat.reduceAdd, Nat.reduceSub, Nat.reduceMul, Nat.reduceLT, Nat.reduceEqDiff, reduceCtorEq, Nat.reduceLeDiff, Int.reduceLE, Int.reduceLT, Int.reduceToNat, hn, g0, g2, g3, g14, g15, g16, g2, g3]
      (repeat' apply And.intro) <;> first | rfl | trivial
  · refine ⟨Ext.refl _ _, fun x hx => by simp at hx, ?_⟩
    simp only [core, Nat.reduceAdd, Nat.reduceSub, Nat.reduceMul, Nat.reduceLT, Nat.reduceEqDiff, reduceCtorEq, Nat.reduceLeDiff, Int.reduceLE, Int.reduceLT, Int.reduceToNat]
    (repeat' apply And.intro) <;> first | rfl | trivial
end Go.Proofs.Ytkgbeihcepociaa.Ex
namespace Go.Proofs.Ytkgbeihcepociaa
open Go.RowKit Go.ChangeShapes Go.WideShapes Go.ChangeAt
set_option maxRecDepth 100000 in
theorem osdmapPlays_walk {H : Type} {enc : TypeId × Value → H} {W : World} {base : Nat} {v0 : Value} {d0 : DataW H} {p0 : List MemPlace}
    (k0 : Value.okWide Try.prog W .any base 22 v0) (h0 : DataW.Trod enc Try.prog W 0 (fun _ => true) true 22 v0 d0 p0)
    {ts : List TypeId} {ds : List (DataW H)} (hsz : (DataW.weightsEach Try.prog ([22] ++ ts) ([d0] ++ ds)).all (· ≤ reachBytes) = true) :
    Calls Try.prog 3 #[v0] W fun e w' => e = .returned (.bool true) ∧ Below W.heap.size W w' := by
  obtain ⟨v, l, r0, i0, ok0⟩ := Ex.open_sl Ex.opensA_Incs Try.underlying22 k0 h0 (weights_le hsz (j := 0) rfl rfl)
  exact Ex.law_join (Ex.rels_cons r0 Ex.rels_nil) (Ex.plays_m i0 ok0.1 ok0.2)
end Go.Proofs.Ytkgbeihcepociaa
end
