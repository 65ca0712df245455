/- Part 11 of the proof: CrushApartWalk. -/
import Derived.Test.YtkgbeihcepociaaDoorM10
section

set_option linter.unusedSimpArgs false
set_option linter.unusedVariables false
set_option maxRecDepth 10000
set_option maxHeartbeats 4000000
namespace Go.Proofs.YtkgbeihcepociaaDoor.Ex
open Go
theorem num8_x {H : AH} {n : Int} : WC Tryd.prog (tabOf Tryd.prog NT0) S0 15 [.lit (.int .i64 n)] H fun r h' => h' = H ∧ r = .lit (.int .i64 n) := by
  refine WC_fn Tryd.func15 rfl rfl ?_
  simp only [core, Nat.reduceAdd, Nat.reduceSub, Nat.reduceMul, Nat.reduceLT, Nat.reduceEqDiff, reduceCtorEq, Nat.reduceLeDiff, Int.reduceLE, Int.reduceLT, Int.reduceToNat, Tryd.ntmps15]
theorem may_osd {m : MapD} {x o : Int} (h : mayF m o x = true) : ∃ (k : Nat) (y : OsdD), o = (k : Int) ∧ m.osds[k]? = some y ∧ y.ex = true ∧ y.up = true ∧ 0 < y.weight := by
  unfold mayF at h
  split at h
  · rename_i h0
    cases hy : m.osds[o.toNat]? with
    | none => rw [hy] at h; cases h
    | some y =>
      rw [hy] at h
      unfold mayO at h
      simp only [Bool.and_eq_true, decide_eq_true_eq] at h
      exact ⟨o.toNat, y, by omega, hy, h.1.1.1, h.1.1.2, h.1.2⟩
  · cases h
theorem select_le {m : MapD} {x : Int} {n : Nat} : (selectF m x (n : Int)).length ≤ n := by
  unfold selectF
  split
  · split
    · exact Nat.zero_le _
    · refine Nat.le_trans (selN_len m x _ _).1 ?_
      unfold cntF
      split
      · omega
      · omega
  · exact Nat.zero_le _
theorem crushApart_m {F : Nat → Prop} {H : AH} {m : MapD} {vo vp vb : AV} {e : TypeId} (q : Int) (od : Nat) (hod : od < 256) (hm : MpAt F H m vo vp vb) (hok : OkM m) (hlo : Sm 40 m.osds) (hT : H.at 1 = some (.frz tabL e)) :
    WC Tryd.prog (tabOf Tryd.prog NT0) S0 5 [mpV m vo vp vb, .lit (.int .u32 q), .lit (.int .u8 (od : Int))] H fun r h' => r = .lit (.bool true) := by
  refine WC_fn Tryd.func5 rfl rfl ?_
  have lt := at_lt hT
  have o1 := hm.o.one
  have o2 := hm.p.one
  have o3 := hm.b.one
  have i1 := hm.o.isSl
  have i2 := hm.o.lenD
  have hlo' := hlo
  unfold Sm at hlo'
  simp only [core, Nat.reduceAdd, Nat.reduceSub, Nat.reduceMul, Nat.reduceLT, Nat.reduceEqDiff, reduceCtorEq, Nat.reduceLeDiff, Int.reduceLE, Int.reduceLT, Int.reduceToNat, Tryd.ntmps5, mpV, o1, o2, o3]
  obtain ⟨h1, hh1⟩ : ∃ h1, h1 = H.push (.cells [.lit (.int .i64 m.epoch), vo, vp, vb, .lit (.int .i64 m.leaf)] 26) := ⟨_, rfl⟩
  have E1 : Ext H.n H h1 := hh1 ▸ (Ext.refl _ _).push _ (Nat.le_refl _)
  have P1 : h1.at H.n = some (.cells [.lit (.int .i64 m.epoch), vo, vp, vb, .lit (.int .i64 m.leaf)] 26) := hh1 ▸ at_push_n _ _
  rw [← hh1]
  clear hh1
  have lp1 := at_lt P1
  refine (wide8_x (hm.ext E1 (Nat.le_refl _)) hok).mono ?_
  rintro _ h2 ⟨e2, b, rfl, hb⟩
  have E2 := E1.step e2
  have P2 := (e2.2 _ lp1).trans P1
  have lp2 := at_lt P2
  have LP2 := ld_at (T := tabOf Tryd.prog NT0) P2
  have T2 := (E2.2 _ lt).trans hT
  cases b with
  | true =>
    simp only [core, Nat.reduceAdd, Nat.reduceSub, Nat.reduceMul, Nat.reduceLT, Nat.reduceEqDiff, reduceCtorEq, Nat.reduceLeDiff, Int.reduceLE, Int.reduceLT, Int.reduceToNat]
    refine (awake8_x T2).mono ?_
    rintro _ h3 ⟨e3, rfl⟩
    simp only [core, Nat.reduceAdd, Nat.reduceSub, Nat.reduceMul, Nat.reduceLT, Nat.reduceEqDiff, reduceCtorEq, Nat.reduceLeDiff, Int.reduceLE, Int.reduceLT, Int.reduceToNat]
  | false =>
  simp only [core, Nat.reduceAdd, Nat.reduceSub, Nat.reduceMul, Nat.reduceLT, Nat.reduceEqDiff, reduceCtorEq, Nat.reduceLeDiff, Int.reduceLE, Int.reduceLT, Int.reduceToNat, LP2, lp2, o1, o2, o3]
  refine (check_x (hm.ext E2 (Nat.le_refl _)) hok).mono ?_
  rintro _ h3 ⟨e3, rfl⟩
  have E3 := E2.step e3
  have P3 := (e3.2 _ lp2).trans P2
  have lp3 := at_lt P3
  have LP3 := ld_at (T := tabOf Tryd.prog NT0) P3
  simp only [core, Nat.reduceAdd, Nat.reduceSub, Nat.reduceMul, Nat.reduceLT, Nat.reduceEqDiff, reduceCtorEq, Nat.reduceLeDiff, Int.reduceLE, Int.reduceLT, Int.reduceToNat]
  refine num8_x.mono ?_
  rintro _ h ⟨rfl, rfl⟩
  cases hg : goodF m with
  | false =>
    have he : (errC m != 0) = true := by unfold errC; rw [check_good, hg]; rfl
    simp only [core, Nat.reduceAdd, Nat.reduceSub, Nat.reduceMul, Nat.reduceLT, Nat.reduceEqDiff, reduceCtorEq, Nat.reduceLeDiff, Int.reduceLE, Int.reduceLT, Int.reduceToNat, he]
    refine (awake8_x ((E3.2 _ lt).trans hT)).mono ?_
    rintro _ h4 ⟨e4, rfl⟩
    simp only [core, Nat.reduceAdd, Nat.reduceSub, Nat.reduceMul, Nat.reduceLT, Nat.reduceEqDiff, reduceCtorEq, Nat.reduceLeDiff, Int.reduceLE, Int.reduceLT, Int.reduceToNat]
  | true =>
  have he : (errC m != 0) = false := by unfold errC; rw [check_good, hg]; rfl
  obtain ⟨nn, hnn⟩ : ∃ nn, nn = od % 10 := ⟨_, rfl⟩
  have hnl : nn < 10 := hnn ▸ Nat.mod_lt _ (by decide)
  have hmod : (od : Int).tmod 10 = (nn : Int) := by rw [hnn]; rfl
  have h10 : ((10 : Int) = 0) = False := by simp
  have hwn : IntKind.i64.wrap (nn : Int) = (nn : Int) := wrap_in (by omega) (by omega)
  simp only [core, Nat.reduceAdd, Nat.reduceSub, Nat.reduceMul, Nat.reduceLT, Nat.reduceEqDiff, reduceCtorEq, Nat.reduceLeDiff, Int.reduceLE, Int.reduceLT, Int.reduceToNat, he, LP3, lp3, o1, o2, o3]
  refine (rootsG_x (hm.ext E3 (Nat.le_refl _)) hok hg).mono ?_
  rintro vr h4 ⟨e4, hr⟩
  have E4 := E3.step e4
  have P4 := (e4.2 _ lp3).trans P3
  have lp4 := at_lt P4
  have LP4 := ld_at (T := tabOf Tryd.prog NT0) P4
  have r1 := hr.isSl
  have r2 := hr.lenD
  simp only [core, Nat.reduceAdd, Nat.reduceSub, Nat.reduceMul, Nat.reduceLT, Nat.reduceEqDiff, reduceCtorEq, Nat.reduceLeDiff, Int.reduceLE, Int.reduceLT, Int.reduceToNat, LP4, lp4, o1, o2, o3, r1, hmod, h10, hwn]
  refine (selectC_x q nn (hm.ext E4 (Nat.le_refl _)) hok hlo).mono ?_
  rintro vl h5 ⟨e5, hl⟩
  have E5 := E4.step e5
  have P5 := (e5.2 _ lp4).trans P4
  have lp5 := at_lt P5
  have l1 := hl.isSl
  have l2 := hl.lenD
  have hsl := select_le (m := m) (x := q) (n := nn)
  have hmay := (selectF_may (m := m) (x := q) (n := nn)).1
  have hap := fun root rs hrs i j a b => apart_law (x := q) (n := nn) (root := root) (rs := rs) (i := i) (j := j) (a := a) (b := b) hg hrs
  have hpre := fun (k : Nat) (hk : (k : Int) ≤ (nn : Int)) => selectF_pre (m := m) (x := q) (a := (k : Int)) (b := (nn : Int)) hk
  have hnr : rootsR m = [] → selectF m q nn = [] := fun hh => by unfold selectF; rw [hg, if_pos rfl, hh]
  obtain ⟨xs, hxs⟩ : ∃ xs, xs = selectF m q nn := ⟨_, rfl⟩
  rw [← hxs] at hl l2 hsl hmay hap hpre hnr
  have hr5 := hr.ext e5 (Nat.le_refl _)
  have c1 : ((nn : Int) < (xs.length : Int)) = False := by simp only [eq_iff_iff, iff_false]; omega
  have hc2 : xs ≠ [] → (((rootsR m).length : Int) == 0) = false := fun hx => by
    rw [beq_eq_false_iff_ne]
    intro hh
    exact hx (hnr (List.eq_nil_of_length_eq_zero (by omega)))
  rcases Nat.eq_zero_or_pos xs.length with hx | hx
  · have d1 : ((0 : Int) < (xs.length : Int)) = False := by simp only [eq_iff_iff, iff_false]; omega
    simp only [core, Nat.reduceAdd, Nat.reduceSub, Nat.reduceMul, Nat.reduceLT, Nat.reduceEqDiff, reduceCtorEq, Nat.reduceLeDiff, Int.reduceLE, Int.reduceLT, Int.reduceToNat, l1, l2, r1, r2, c1, d1, hmod, h10, hwn, aundef]
    refine WB_for xs.length (fun i t h => Ext h5.n h5 h ∧ t.n = 168 ∧ t.get 1 = .lit (.int .u32 q) ∧ t.get 2 = .lit (.int .u8 (od : Int)) ∧ t.get 3 = .ptr H.n 0 ∧ t.get 7 = vr ∧ t.get 8 = vl ∧ t.get 52 = vl ∧ t.get 53 = .lit (.int .i64 xs.length) ∧ t.get 54 = .lit (.int .i64 i)) ?_ ?_ _ _ ?_
    · rintro i t h hlt hc ⟨he, hn, g1, g2, g3, g7, g8, g52, g53, g54⟩ ih
      have EH := E5.step he
      have P := (he.2 _ lp5).trans P5
      have lp := at_lt P
      have LP := ld_at (T := tabOf Tryd.prog NT0) P
      have hlh := hl.ext he (Nat.le_refl _)
      have hld := hlh.int (T := tabOf Tryd.prog NT0) (e := 3) (by kernel_rfl) (by kernel_rfl) hlt
      have hws := wrap_succ hlt (by omega)
      obtain ⟨ak, y, hak, hy, hex, hup, hwt⟩ := may_osd (hmay _ (List.mem_of_getElem? (getD_some' 0 hlt)))
      obtain ⟨hakl, -⟩ := List.getElem?_eq_some_iff.1 hy
      rw [hak] at hld
      obtain ⟨c, hc1, hldo, hldo0⟩ := hm.o.atE (T := tabOf Tryd.prog NT0) EH ROsd_z hy
      obtain ⟨rfl, -⟩ := ROsd_is.1 hc1
      have b1 : ((ak : Int) < 0) = False := by simp only [eq_iff_iff, iff_false]; omega
      have b2 : ((m.osds.length : Int) ≤ (ak : Int)) = False := by simp only [eq_iff_iff, iff_false]; omega
      have b3 : (y.weight < 1) = False := by simp only [eq_iff_iff, iff_false]; omega
      have hcap : CapOk 1 vl := by obtain ⟨L, -, -, hc, -⟩ := hlh.out; exact hc
      have hle1 : i ≤ xs.length := by omega
      have hle2 : ((i : Nat) : Int) ≤ (xs.length : Int) := by omega
      have hsub : IsSl RInt (fun b => h4.n ≤ b) h (subSl 1 0 i vl) ((xs.take i).drop 0) := hlh.sub (l := 0) (r := i) (Nat.zero_le _) hle1
      have u1 := hsub.isSl
      have u2 := hsub.lenD
      rw [List.drop_zero, List.length_take, Nat.min_eq_left hle1] at u2
      simp only [core, Nat.reduceAdd, Nat.reduceSub, Nat.reduceMul, Nat.reduceLT, Nat.reduceEqDiff, reduceCtorEq, Nat.reduceLeDiff, Int.reduceLE, Int.reduceLT, Int.reduceToNat, hn, g1, g2, g3, g7, g8, g52, g53, g54, hlt, hc, hld, l1, l2, LP, lp, i1, i2, hakl, hldo, hldo0, b1, b2, b3, hex, hup, hcap, hle1, hle2, u1, u2]
      refine WB_for i (fun j t h' => Ext h.n h h' ∧ t.n = 168 ∧ t.get 1 = .lit (.int .u32 q) ∧ t.get 2 = .lit (.int .u8 (od : Int)) ∧ t.get 3 = .ptr H.n 0 ∧ t.get 7 = vr ∧ t.get 8 = vl ∧ t.get 10 = .lit (.int .i64 (ak : Int)) ∧ t.get 52 = vl ∧ t.get 53 = .lit (.int .i64 xs.length) ∧ t.get 54 = .lit (.int .i64 i) ∧ t.get 97 = subSl 1 0 i vl ∧ t.get 98 = .lit (.int .i64 i) ∧ t.get 99 = .lit (.int .i64 j)) ?_ ?_ _ _ ?_
      · rintro j t h' hlt3 hc3 ⟨he', hn, g1, g2, g3, g7, g8, g10, g52, g53, g54, g97, g98, g99⟩ ih2
        have hlt4 : j < ((xs.take i).drop 0).length := by rw [List.drop_zero, List.length_take]; omega
        have hld2 := (hsub.ext he' (Nat.le_refl _)).int (T := tabOf Tryd.prog NT0) (e := 3) (by kernel_rfl) (by kernel_rfl) hlt4
        have hgj : ((xs.take i).drop 0).getD j 0 = xs.getD j 0 := by rw [List.drop_zero, List.getD_eq_getElem?_getD, List.getD_eq_getElem?_getD, List.getElem?_take_of_lt hlt3]
        rw [hgj] at hld2
        have hws3 := wrap_succ hlt3 (by omega)
        have P' := (he'.2 _ lp).trans P
        have lp' := at_lt P'
        have LP' := ld_at (T := tabOf Tryd.prog NT0) P'
        have EH' := EH.step he'
        obtain ⟨bv, hbv⟩ : ∃ bv, bv = xs.getD j 0 := ⟨_, rfl⟩
        rw [← hbv] at hld2
        obtain ⟨root, rs, hrs⟩ : ∃ root rs, rootsR m = root :: rs := by
          cases hrr : rootsR m with
          | nil => rw [hnr hrr] at hlt; simp at hlt
          | cons a b => exact ⟨a, b, rfl⟩
        have hx1 : xs[i]? = some (ak : Int) := by rw [getD_some' 0 hlt, hak]
        have hx2 : xs[j]? = some bv := by rw [getD_some' 0 (show j < xs.length by omega), hbv]
        obtain ⟨w1, w2⟩ := hap root rs hrs i j (ak : Int) bv hx1 hx2 hlt3
        have c4 : ((ak : Int) == bv) = false := by rw [beq_eq_false_iff_ne]; exact w1
        simp only [core, Nat.reduceAdd, Nat.reduceSub, Nat.reduceMul, Nat.reduceLT, Nat.reduceEqDiff, reduceCtorEq, Nat.reduceLeDiff, Int.reduceLE, Int.reduceLT, Int.reduceToNat, hn, g1, g2, g3, g7, g8, g10, g52, g53, g54, g97, g98, g99, hlt3, hc3, hld2, u1, u2, LP', lp', o1, o2, o3]
        refine (under_x (ak : Int) m.leaf (hm.ext EH' (Nat.le_refl _)) hok).mono ?_
        rintro _ h6 ⟨e6, rfl⟩
        have P6 := (e6.2 _ lp').trans P'
        have lp6 := at_lt P6
        have LP6 := ld_at (T := tabOf Tryd.prog NT0) P6
        have hrh : IsSl RInt (fun _ => True) h6 vr (rootsR m) := (((hr5.ext he (Nat.le_refl _)).ext he' (Nat.le_refl _)).ext e6 (Nat.le_refl _)).lift fun b hb _ => ⟨rfl, trivial⟩
        cases hu1 : underF m (ak : Int) m.leaf with
        | none =>
          simp only [core, Nat.reduceAdd, Nat.reduceSub, Nat.reduceMul, Nat.reduceLT, Nat.reduceEqDiff, reduceCtorEq, Nat.reduceLeDiff, Int.reduceLE, Int.reduceLT, Int.reduceToNat, hn, g1, g2, g3, g7, g8, g10, g52, g53, g54, g97, g98, g99, optV, pairV, LP6, lp6, o1, o2, o3]
          refine (under_x bv m.leaf (hm.ext (EH'.step e6) (Nat.le_refl _)) hok).mono ?_
          rintro _ h7 ⟨e7, rfl⟩
          cases hu2 : underF m bv m.leaf with
          | none =>
            simp only [core, Nat.reduceAdd, Nat.reduceSub, Nat.reduceMul, Nat.reduceLT, Nat.reduceEqDiff, reduceCtorEq, Nat.reduceLeDiff, Int.reduceLE, Int.reduceLT, Int.reduceToNat, hn, g1, g2, g3, g7, g8, g10, g52, g53, g54, g97, g98, g99, optV, pairV, c4, hws3, aundef]
            refine ih2 _ _ ⟨(he'.step e6).step e7, ?_⟩
            simp only [core, Nat.reduceAdd, Nat.reduceSub, Nat.reduceMul, Nat.reduceLT, Nat.reduceEqDiff, reduceCtorEq, Nat.reduceLeDiff, Int.reduceLE, Int.reduceLT, Int.reduceToNat, hn, g1, g2, g3, g7, g8, g10, g52, g53, g54, g97, g98, g99]
          | some d =>
            simp only [core, Nat.reduceAdd, Nat.reduceSub, Nat.reduceMul, Nat.reduceLT, Nat.reduceEqDiff, reduceCtorEq, Nat.reduceLeDiff, Int.reduceLE, Int.reduceLT, Int.reduceToNat, hn, g1, g2, g3, g7, g8, g10, g52, g53, g54, g97, g98, g99, optV, pairV, c4, hws3, aundef]
            refine ih2 _ _ ⟨(he'.step e6).step e7, ?_⟩
            simp only [core, Nat.reduceAdd, Nat.reduceSub, Nat.reduceMul, Nat.reduceLT, Nat.reduceEqDiff, reduceCtorEq, Nat.reduceLeDiff, Int.reduceLE, Int.reduceLT, Int.reduceToNat, hn, g1, g2, g3, g7, g8, g10, g52, g53, g54, g97, g98, g99]
        | some cc =>
          simp only [core, Nat.reduceAdd, Nat.reduceSub, Nat.reduceMul, Nat.reduceLT, Nat.reduceEqDiff, reduceCtorEq, Nat.reduceLeDiff, Int.reduceLE, Int.reduceLT, Int.reduceToNat, hn, g1, g2, g3, g7, g8, g10, g52, g53, g54, g97, g98, g99, optV, pairV, LP6, lp6, o1, o2, o3]
          refine (under_x bv m.leaf (hm.ext (EH'.step e6) (Nat.le_refl _)) hok).mono ?_
          rintro _ h7 ⟨e7, rfl⟩
          cases hu2 : underF m bv m.leaf with
          | none =>
            simp only [core, Nat.reduceAdd, Nat.reduceSub, Nat.reduceMul, Nat.reduceLT, Nat.reduceEqDiff, reduceCtorEq, Nat.reduceLeDiff, Int.reduceLE, Int.reduceLT, Int.reduceToNat, hn, g1, g2, g3, g7, g8, g10, g52, g53, g54, g97, g98, g99, optV, pairV, c4, hws3, aundef]
            refine ih2 _ _ ⟨(he'.step e6).step e7, ?_⟩
            simp only [core, Nat.reduceAdd, Nat.reduceSub, Nat.reduceMul, Nat.reduceLT, Nat.reduceEqDiff, reduceCtorEq, Nat.reduceLeDiff, Int.reduceLE, Int.reduceLT, Int.reduceToNat, hn, g1, g2, g3, g7, g8, g10, g52, g53, g54, g97, g98, g99]
          | some d =>
            by_cases hcd : cc = d
            · have hcr := w2 cc hu1 (by rw [hu2, hcd])
              have c5 : (cc == d) = true := by rw [hcd]; exact beq_self_eq_true _
              have hr7 := hrh.ext e7 (Nat.le_refl _)
              have hr0 : 0 < (rootsR m).length := by rw [hrs]; simp
              have hldr := hr7.int (T := tabOf Tryd.prog NT0) (e := 3) (by kernel_rfl) (by kernel_rfl) hr0
              have hg0 : (rootsR m).getD 0 0 = cc := by rw [hrs, hcr]; rfl
              rw [hg0, Nat.add_zero] at hldr
              have c6 : (cc != cc) = false := bne_self_eq_false _
              simp only [core, Nat.reduceAdd, Nat.reduceSub, Nat.reduceMul, Nat.reduceLT, Nat.reduceEqDiff, reduceCtorEq, Nat.reduceLeDiff, Int.reduceLE, Int.reduceLT, Int.reduceToNat, hn, g1, g2, g3, g7, g8, g10, g52, g53, g54, g97, g98, g99, optV, pairV, c4, c5, hws3, r1, r2, hr0, hldr, c6, aundef]
              refine ih2 _ _ ⟨(he'.step e6).step e7, ?_⟩
              simp only [core, Nat.reduceAdd, Nat.reduceSub, Nat.reduceMul, Nat.reduceLT, Nat.reduceEqDiff, reduceCtorEq, Nat.reduceLeDiff, Int.reduceLE, Int.reduceLT, Int.reduceToNat, hn, g1, g2, g3, g7, g8, g10, g52, g53, g54, g97, g98, g99]
            · have c5 : (cc == d) = false := by rw [beq_eq_false_iff_ne]; exact hcd
              simp only [core, Nat.reduceAdd, Nat.reduceSub, Nat.reduceMul, Nat.reduceLT, Nat.reduceEqDiff, reduceCtorEq, Nat.reduceLeDiff, Int.reduceLE, Int.reduceLT, Int.reduceToNat, hn, g1, g2, g3, g7, g8, g10, g52, g53, g54, g97, g98, g99, optV, pairV, c4, c5, hws3, aundef]
              refine ih2 _ _ ⟨(he'.step e6).step e7, ?_⟩
              simp only [core, Nat.reduceAdd, Nat.reduceSub, Nat.reduceMul, Nat.reduceLT, Nat.reduceEqDiff, reduceCtorEq, Nat.reduceLeDiff, Int.reduceLE, Int.reduceLT, Int.reduceToNat, hn, g1, g2, g3, g7, g8, g10, g52, g53, g54, g97, g98, g99]
      · rintro t h' hc3 ⟨he', hn, g1, g2, g3, g7, g8, g10, g52, g53, g54, g97, g98, g99⟩
        simp only [core, Nat.reduceAdd, Nat.reduceSub, Nat.reduceMul, Nat.reduceLT, Nat.reduceEqDiff, reduceCtorEq, Nat.reduceLeDiff, Int.reduceLE, Int.reduceLT, Int.reduceToNat, hn, g1, g2, g3, g7, g8, g10, g52, g53, g54, g97, g98, g99, hc3, hws]
        refine ih _ _ ⟨he.step he', ?_⟩
        simp only [core, Nat.reduceAdd, Nat.reduceSub, Nat.reduceMul, Nat.reduceLT, Nat.reduceEqDiff, reduceCtorEq, Nat.reduceLeDiff, Int.reduceLE, Int.reduceLT, Int.reduceToNat, hn, g1, g2, g3, g7, g8, g10, g52, g53, g54, g97, g98, g99]
      · refine ⟨Ext.refl _ _, ?_⟩
        simp only [core, Nat.reduceAdd, Nat.reduceSub, Nat.reduceMul, Nat.reduceLT, Nat.reduceEqDiff, reduceCtorEq, Nat.reduceLeDiff, Int.reduceLE, Int.reduceLT, Int.reduceToNat, hn, g1, g2, g3, g7, g8, g52, g53, g54]
        (repeat' apply And.intro) <;> first | rfl | trivial
    · rintro t h hc ⟨he, hn, g1, g2, g3, g7, g8, g52, g53, g54⟩
      simp only [core, Nat.reduceAdd, Nat.reduceSub, Nat.reduceMul, Nat.reduceLT, Nat.reduceEqDiff, reduceCtorEq, Nat.reduceLeDiff, Int.reduceLE, Int.reduceLT, Int.reduceToNat, hn, g1, g2, g3, g7, g8, g52, g53, g54, hc, hmod, h10, hwn]
      refine WB_ind (fun (k : Nat) t h => k ≤ nn ∧ Ext h5.n h5 h ∧ t.n = 168 ∧ t.get 1 = .lit (.int .u32 q) ∧ t.get 3 = .ptr H.n 0 ∧ t.get 8 = vl ∧ t.get 17 = .lit (.int .i64 (k : Int))) (fun k => k) ?_ nn _ _ ?_
      · rintro k t h ⟨hkn, he, hn, g1, g3, g8, g17⟩ ih
        have EH := E5.step he
        have P := (he.2 _ lp5).trans P5
        have lp := at_lt P
        have LP := ld_at (T := tabOf Tryd.prog NT0) P
        have hlh := hl.ext he (Nat.le_refl _)
        by_cases hk0 : k = 0
        · subst hk0
          have c7 : ((0 : Int) < ((0 : Nat) : Int)) = False := by decide
          have c7' : ((0 : Int) < 0) = False := by decide
          simp only [core, Nat.reduceAdd, Nat.reduceSub, Nat.reduceMul, Nat.reduceLT, Nat.reduceEqDiff, reduceCtorEq, Nat.reduceLeDiff, Int.reduceLE, Int.reduceLT, Int.reduceToNat, hn, g1, g3, g8, g17, c7, c7']
          refine (awake8_x ((EH.2 _ lt).trans hT)).mono ?_
          rintro _ h6 ⟨e6, rfl⟩
          simp only [core, Nat.reduceAdd, Nat.reduceSub, Nat.reduceMul, Nat.reduceLT, Nat.reduceEqDiff, reduceCtorEq, Nat.reduceLeDiff, Int.reduceLE, Int.reduceLT, Int.reduceToNat, hn, g1, g3, g8, g17]
        · have c7 : ((0 : Int) < (k : Int)) = True := by simp only [eq_iff_iff, iff_true]; omega
          have hwk : IntKind.i64.wrap ((k : Int) - 1) = ((k - 1 : Nat) : Int) := (wrap_in (by omega) (by omega)).trans (by omega)
          simp only [core, Nat.reduceAdd, Nat.reduceSub, Nat.reduceMul, Nat.reduceLT, Nat.reduceEqDiff, reduceCtorEq, Nat.reduceLeDiff, Int.reduceLE, Int.reduceLT, Int.reduceToNat, hn, g1, g3, g8, g17, c7, hwk, LP, lp, o1, o2, o3]
          refine (selectC_x q ((k - 1 : Nat) : Int) (hm.ext EH (Nat.le_refl _)) hok hlo).mono ?_
          rintro vs h6 ⟨e6, hs⟩
          obtain ⟨w, hw⟩ := hpre (k - 1) (by omega)
          obtain ⟨ys, hys⟩ : ∃ ys, ys = selectF m q ((k - 1 : Nat) : Int) := ⟨_, rfl⟩
          rw [← hys] at hs hw
          have s1 := hs.isSl
          have s2 := hs.lenD
          have hyl : ys.length ≤ xs.length := by rw [← hw, List.length_append]; omega
          have c8 : ((xs.length : Int) < (ys.length : Int)) = False := by simp only [eq_iff_iff, iff_false]; omega
          have hl6 := hlh.ext e6 (Nat.le_refl _)
          have hcap : CapOk 1 vl := by obtain ⟨L, -, -, hc, -⟩ := hl6.out; exact hc
          have hle2 : ((ys.length : Nat) : Int) ≤ (xs.length : Int) := by omega
          have hsub : IsSl RInt (fun b => h4.n ≤ b) h6 (subSl 1 0 ys.length vl) ((xs.take ys.length).drop 0) := hl6.sub (l := 0) (r := ys.length) (Nat.zero_le _) hyl
          have hte : (xs.take ys.length).drop 0 = ys := by rw [List.drop_zero, ← hw, List.take_left]
          rw [hte] at hsub
          have u1 := hsub.isSl
          simp only [core, Nat.reduceAdd, Nat.reduceSub, Nat.reduceMul, Nat.reduceLT, Nat.reduceEqDiff, reduceCtorEq, Nat.reduceLeDiff, Int.reduceLE, Int.reduceLT, Int.reduceToNat, hn, g1, g3, g8, g17, s1, s2, l1, l2, c8, hcap, hyl, hle2, u1]
          refine (ints_x hs hsub (by omega)).mono ?_
          rintro _ h7 ⟨rfl, rfl⟩
          rw [beq_self_eq_true]
          simp only [core, Nat.reduceAdd, Nat.reduceSub, Nat.reduceMul, Nat.reduceLT, Nat.reduceEqDiff, reduceCtorEq, Nat.reduceLeDiff, Int.reduceLE, Int.reduceLT, Int.reduceToNat, hn, g1, g3, g8, g17, aundef]
          refine ih (k - 1) _ _ ⟨by omega, he.step e6, ?_⟩ (by omega)
          simp only [core, Nat.reduceAdd, Nat.reduceSub, Nat.reduceMul, Nat.reduceLT, Nat.reduceEqDiff, reduceCtorEq, Nat.reduceLeDiff, Int.reduceLE, Int.reduceLT, Int.reduceToNat, hn, g1, g3, g8, g17]
      · refine ⟨Nat.le_refl _, he, ?_⟩
        simp only [core, Nat.reduceAdd, Nat.reduceSub, Nat.reduceMul, Nat.reduceLT, Nat.reduceEqDiff, reduceCtorEq, Nat.reduceLeDiff, Int.reduceLE, Int.reduceLT, Int.reduceToNat, hn, g1, g2, g3, g7, g8, g52, g53, g54]
    · refine ⟨Ext.refl _ _, ?_⟩
      simp only [core, Nat.reduceAdd, Nat.reduceSub, Nat.reduceMul, Nat.reduceLT, Nat.reduceEqDiff, reduceCtorEq, Nat.reduceLeDiff, Int.reduceLE, Int.reduceLT, Int.reduceToNat, l1, l2, r1]
      (repeat' apply And.intro) <;> first | rfl | trivial
  · have d1 : ((0 : Int) < (xs.length : Int)) = True := by simp only [eq_iff_iff, iff_true]; omega
    have d2 := hc2 (fun hh => by rw [hh] at hx; simp at hx)
    simp only [core, Nat.reduceAdd, Nat.reduceSub, Nat.reduceMul, Nat.reduceLT, Nat.reduceEqDiff, reduceCtorEq, Nat.reduceLeDiff, Int.reduceLE, Int.reduceLT, Int.reduceToNat, l1, l2, r1, r2, c1, d1, d2, hmod, h10, hwn, aundef]
    refine WB_for xs.length (fun i t h => Ext h5.n h5 h ∧ t.n = 168 ∧ t.get 1 = .lit (.int .u32 q) ∧ t.get 2 = .lit (.int .u8 (od : Int)) ∧ t.get 3 = .ptr H.n 0 ∧ t.get 7 = vr ∧ t.get 8 = vl ∧ t.get 52 = vl ∧ t.get 53 = .lit (.int .i64 xs.length) ∧ t.get 54 = .lit (.int .i64 i)) ?_ ?_ _ _ ?_
    · rintro i t h hlt hc ⟨he, hn, g1, g2, g3, g7, g8, g52, g53, g54⟩ ih
      have EH := E5.step he
      have P := (he.2 _ lp5).trans P5
      have lp := at_lt P
      have LP := ld_at (T := tabOf Tryd.prog NT0) P
      have hlh := hl.ext he (Nat.le_refl _)
      have hld := hlh.int (T := tabOf Tryd.prog NT0) (e := 3) (by kernel_rfl) (by kernel_rfl) hlt
      have hws := wrap_succ hlt (by omega)
      obtain ⟨ak, y, hak, hy, hex, hup, hwt⟩ := may_osd (hmay _ (List.mem_of_getElem? (getD_some' 0 hlt)))
      obtain ⟨hakl, -⟩ := List.getElem?_eq_some_iff.1 hy
      rw [hak] at hld
      obtain ⟨c, hc1, hldo, hldo0⟩ := hm.o.atE (T := tabOf Tryd.prog NT0) EH ROsd_z hy
      obtain ⟨rfl, -⟩ := ROsd_is.1 hc1
      have b1 : ((ak : Int) < 0) = False := by simp only [eq_iff_iff, iff_false]; omega
      have b2 : ((m.osds.length : Int) ≤ (ak : Int)) = False := by simp only [eq_iff_iff, iff_false]; omega
      have b3 : (y.weight < 1) = False := by simp only [eq_iff_iff, iff_false]; omega
      have hcap : CapOk 1 vl := by obtain ⟨L, -, -, hc, -⟩ := hlh.out; exact hc
      have hle1 : i ≤ xs.length := by omega
      have hle2 : ((i : Nat) : Int) ≤ (xs.length : Int) := by omega
      have hsub : IsSl RInt (fun b => h4.n ≤ b) h (subSl 1 0 i vl) ((xs.take i).drop 0) := hlh.sub (l := 0) (r := i) (Nat.zero_le _) hle1
      have u1 := hsub.isSl
      have u2 := hsub.lenD
      rw [List.drop_zero, List.length_take, Nat.min_eq_left hle1] at u2
      simp only [core, Nat.reduceAdd, Nat.reduceSub, Nat.reduceMul, Nat.reduceLT, Nat.reduceEqDiff, reduceCtorEq, Nat.reduceLeDiff, Int.reduceLE, Int.reduceLT, Int.reduceToNat, hn, g1, g2, g3, g7, g8, g52, g53, g54, hlt, hc, hld, l1, l2, LP, lp, i1, i2, hakl, hldo, hldo0, b1, b2, b3, hex, hup, hcap, hle1, hle2, u1, u2]
      refine WB_for i (fun j t h' => Ext h.n h h' ∧ t.n = 168 ∧ t.get 1 = .lit (.int .u32 q) ∧ t.get 2 = .lit (.int .u8 (od : Int)) ∧ t.get 3 = .ptr H.n 0 ∧ t.get 7 = vr ∧ t.get 8 = vl ∧ t.get 10 = .lit (.int .i64 (ak : Int)) ∧ t.get 52 = vl ∧ t.get 53 = .lit (.int .i64 xs.length) ∧ t.get 54 = .lit (.int .i64 i) ∧ t.get 97 = subSl 1 0 i vl ∧ t.get 98 = .lit (.int .i64 i) ∧ t.get 99 = .lit (.int .i64 j)) ?_ ?_ _ _ ?_
      · rintro j t h' hlt3 hc3 ⟨he', hn, g1, g2, g3, g7, g8, g10, g52, g53, g54, g97, g98, g99⟩ ih2
        have hlt4 : j < ((xs.take i).drop 0).length := by rw [List.drop_zero, List.length_take]; omega
        have hld2 := (hsub.ext he' (Nat.le_refl _)).int (T := tabOf Tryd.prog NT0) (e := 3) (by kernel_rfl) (by kernel_rfl) hlt4
        have hgj : ((xs.take i).drop 0).getD j 0 = xs.getD j 0 := by rw [List.drop_zero, List.getD_eq_getElem?_getD, List.getD_eq_getElem?_getD, List.getElem?_take_of_lt hlt3]
        rw [hgj] at hld2
        have hws3 := wrap_succ hlt3 (by omega)
        have P' := (he'.2 _ lp).trans P
        have lp' := at_lt P'
        have LP' := ld_at (T := tabOf Tryd.prog NT0) P'
        have EH' := EH.step he'
        obtain ⟨bv, hbv⟩ : ∃ bv, bv = xs.getD j 0 := ⟨_, rfl⟩
        rw [← hbv] at hld2
        obtain ⟨root, rs, hrs⟩ : ∃ root rs, rootsR m = root :: rs := by
          cases hrr : rootsR m with
          | nil => rw [hnr hrr] at hlt; simp at hlt
          | cons a b => exact ⟨a, b, rfl⟩
        have hx1 : xs[i]? = some (ak : Int) := by rw [getD_some' 0 hlt, hak]
        have hx2 : xs[j]? = some bv := by rw [getD_some' 0 (show j < xs.length by omega), hbv]
        obtain ⟨w1, w2⟩ := hap root rs hrs i j (ak : Int) bv hx1 hx2 hlt3
        have c4 : ((ak : Int) == bv) = false := by rw [beq_eq_false_iff_ne]; exact w1
        simp only [core, Nat.reduceAdd, Nat.reduceSub, Nat.reduceMul, Nat.reduceLT, Nat.reduceEqDiff, reduceCtorEq, Nat.reduceLeDiff, Int.reduceLE, Int.reduceLT, Int.reduceToNat, hn, g1, g2, g3, g7, g8, g10, g52, g53, g54, g97, g98, g99, hlt3, hc3, hld2, u1, u2, LP', lp', o1, o2, o3]
        refine (under_x (ak : Int) m.leaf (hm.ext EH' (Nat.le_refl _)) hok).mono ?_
        rintro _ h6 ⟨e6, rfl⟩
        have P6 := (e6.2 _ lp').trans P'
        have lp6 := at_lt P6
        have LP6 := ld_at (T := tabOf Tryd.prog NT0) P6
        have hrh : IsSl RInt (fun _ => True) h6 vr (rootsR m) := (((hr5.ext he (Nat.le_refl _)).ext he' (Nat.le_refl _)).ext e6 (Nat.le_refl _)).lift fun b hb _ => ⟨rfl, trivial⟩
        cases hu1 : underF m (ak : Int) m.leaf with
        | none =>
          simp only [core, Nat.reduceAdd, Nat.reduceSub, Nat.reduceMul, Nat.reduceLT, Nat.reduceEqDiff, reduceCtorEq, Nat.reduceLeDiff, Int.reduceLE, Int.reduceLT, Int.reduceToNat, hn, g1, g2, g3, g7, g8, g10, g52, g53, g54, g97, g98, g99, optV, pairV, LP6, lp6, o1, o2, o3]
          refine (under_x bv m.leaf (hm.ext (EH'.step e6) (Nat.le_refl _)) hok).mono ?_
          rintro _ h7 ⟨e7, rfl⟩
          cases hu2 : underF m bv m.leaf with
          | none =>
            simp only [core, Nat.reduceAdd, Nat.reduceSub, Nat.reduceMul, Nat.reduceLT, Nat.reduceEqDiff, reduceCtorEq, Nat.reduceLeDiff, Int.reduceLE, Int.reduceLT, Int.reduceToNat, hn, g1, g2, g3, g7, g8, g10, g52, g53, g54, g97, g98, g99, optV, pairV, c4, hws3, aundef]
            refine ih2 _ _ ⟨(he'.step e6).step e7, ?_⟩
            simp only [core, Nat.reduceAdd, Nat.reduceSub, Nat.reduceMul, Nat.reduceLT, Nat.reduceEqDiff, reduceCtorEq, Nat.reduceLeDiff, Int.reduceLE, Int.reduceLT, Int.reduceToNat, hn, g1, g2, g3, g7, g8, g10, g52, g53, g54, g97, g98, g99]
          | some d =>
            simp only [core, Nat.reduceAdd, Nat.reduceSub, Nat.reduceMul, Nat.reduceLT, Nat.reduceEqDiff, reduceCtorEq, Nat.reduceLeDiff, Int.reduceLE, Int.reduceLT, Int.reduceToNat, hn, g1, g2, g3, g7, g8, g10, g52, g53, g54, g97, g98, g99, optV, pairV, c4, hws3, aundef]
            refine ih2 _ _ ⟨(he'.step e6).step e7, ?_⟩
            simp only [core, Nat.reduceAdd, Nat.reduceSub, Nat.reduceMul, Nat.reduceLT, Nat.reduceEqDiff, reduceCtorEq, Nat.reduceLeDiff, Int.reduceLE, Int.reduceLT, Int.reduceToNat, hn, g1, g2, g3, g7, g8, g10, g52, g53, g54, g97, g98, g99]
        | some cc =>
          simp only [core, Nat.reduceAdd, Nat.reduceSub, Nat.reduceMul, Nat.reduceLT, Nat.reduceEqDiff, reduceCtorEq, Nat.reduceLeDiff, Int.reduceLE, Int.reduceLT, Int.reduceToNat, hn, g1, g2, g3, g7, g8, g10, g52, g53, g54, g97, g98, g99, optV, pairV, LP6, lp6, o1, o2, o3]
          refine (under_x bv m.leaf (hm.ext (EH'.step e6) (Nat.le_refl _)) hok).mono ?_
          rintro _ h7 ⟨e7, rfl⟩
          cases hu2 : underF m bv m.leaf with
          | none =>
            simp only [core, Nat.reduceAdd, Nat.reduceSub, Nat.reduceMul, Nat.reduceLT, Nat.reduceEqDiff, reduceCtorEq, Nat.reduceLeDiff, Int.reduceLE, Int.reduceLT, Int.reduceToNat, hn, g1, g2, g3, g7, g8, g10, g52, g53, g54, g97, g98, g99, optV, pairV, c4, hws3, aundef]
            refine ih2 _ _ ⟨(he'.step e6).step e7, ?_⟩
            simp only [core, Nat.reduceAdd, Nat.reduceSub, Nat.reduceMul, Nat.reduceLT, Nat.reduceEqDiff, reduceCtorEq, Nat.reduceLeDiff, Int.reduceLE, Int.reduceLT, Int.reduceToNat, hn, g1, g2, g3, g7, g8, g10, g52, g53, g54, g97, g98, g99]
          | some d =>
            by_cases hcd : cc = d
            · have hcr := w2 cc hu1 (by rw [hu2, hcd])
              have c5 : (cc == d) = true := by rw [hcd]; exact beq_self_eq_true _
              have hr7 := hrh.ext e7 (Nat.le_refl _)
              have hr0 : 0 < (rootsR m).length := by rw [hrs]; simp
              have hldr := hr7.int (T := tabOf Tryd.prog NT0) (e := 3) (by kernel_rfl) (by kernel_rfl) hr0
              have hg0 : (rootsR m).getD 0 0 = cc := by rw [hrs, hcr]; rfl
              rw [hg0, Nat.add_zero] at hldr
              have c6 : (cc != cc) = false := bne_self_eq_false _
              simp only [core, Nat.reduceAdd, Nat.reduceSub, Nat.reduceMul, Nat.reduceLT, Nat.reduceEqDiff, reduceCtorEq, Nat.reduceLeDiff, Int.reduceLE, Int.reduceLT, Int.reduceToNat, hn, g1, g2, g3, g7, g8, g10, g52, g53, g54, g97, g98, g99, optV, pairV, c4, c5, hws3, r1, r2, hr0, hldr, c6, aundef]
              refine ih2 _ _ ⟨(he'.step e6).step e7, ?_⟩
              simp only [core, Nat.reduceAdd, Nat.reduceSub, Nat.reduceMul, Nat.reduceLT, Nat.reduceEqDiff, reduceCtorEq, Nat.reduceLeDiff, Int.reduceLE, Int.reduceLT, Int.reduceToNat, hn, g1, g2, g3, g7, g8, g10, g52, g53, g54, g97, g98, g99]
            · have c5 : (cc == d) = false := by rw [beq_eq_false_iff_ne]; exact hcd
              simp only [core, Nat.reduceAdd, Nat.reduceSub, Nat.reduceMul, Nat.reduceLT, Nat.reduceEqDiff, reduceCtorEq, Nat.reduceLeDiff, Int.reduceLE, Int.reduceLT, Int.reduceToNat, hn, g1, g2, g3, g7, g8, g10, g52, g53, g54, g97, g98, g99, optV, pairV, c4, c5, hws3, aundef]
              refine ih2 _ _ ⟨(he'.step e6).step e7, ?_⟩
              simp only [core, Nat.reduceAdd, Nat.reduceSub, Nat.reduceMul, Nat.reduceLT, Nat.reduceEqDiff, reduceCtorEq, Nat.reduceLeDiff, Int.reduceLE, Int.reduceLT, Int.reduceToNat, hn, g1, g2, g3, g7, g8, g10, g52, g53, g54, g97, g98, g99]
      · rintro t h' hc3 ⟨he', hn, g1, g2, g3, g7, g8, g10, g52, g53, g54, g97, g98, g99⟩
        simp only [core, Nat.reduceAdd, Nat.reduceSub, Nat.reduceMul, Nat.reduceLT, Nat.reduceEqDiff, reduceCtorEq, Nat.reduceLeDiff, Int.reduceLE, Int.reduceLT, Int.reduceToNat, hn, g1, g2, g3, g7, g8, g10, g52, g53, g54, g97, g98, g99, hc3, hws]
        refine ih _ _ ⟨he.step he', ?_⟩
        simp only [core, Nat.reduceAdd, Nat.reduceSub, Nat.reduceMul, Nat.reduceLT, Nat.reduceEqDiff, reduceCtorEq, Nat.reduceLeDiff, Int.reduceLE, Int.reduceLT, Int.reduceToNat, hn, g1, g2, g3, g7, g8, g10, g52, g53, g54, g97, g98, g99]
      · refine ⟨Ext.refl _ _, ?_⟩
        simp only [core, Nat.reduceAdd, Nat.reduceSub, Nat.reduceMul, Nat.reduceLT, Nat.reduceEqDiff, reduceCtorEq, Nat.reduceLeDiff, Int.reduceLE, Int.reduceLT, Int.reduceToNat, hn, g1, g2, g3, g7, g8, g52, g53, g54]
        (repeat' apply And.intro) <;> first | rfl | trivial
    · rintro t h hc ⟨he, hn, g1, g2, g3, g7, g8, g52, g53, g54⟩
      simp only [core, Nat.reduceAdd, Nat.reduceSub, Nat.reduceMul, Nat.reduceLT, Nat.reduceEqDiff, reduceCtorEq, Nat.reduceLeDiff, Int.reduceLE, Int.reduceLT, Int.reduceToNat, hn, g1, g2, g3, g7, g8, g52, g53, g54, hc, hmod, h10, hwn]
      refine WB_ind (fun (k : Nat) t h => k ≤ nn ∧ Ext h5.n h5 h ∧ t.n = 168 ∧ t.get 1 = .lit (.int .u32 q) ∧ t.get 3 = .ptr H.n 0 ∧ t.get 8 = vl ∧ t.get 17 = .lit (.int .i64 (k : Int))) (fun k => k) ?_ nn _ _ ?_
      · rintro k t h ⟨hkn, he, hn, g1, g3, g8, g17⟩ ih
        have EH := E5.step he
        have P := (he.2 _ lp5).trans P5
        have lp := at_lt P
        have LP := ld_at (T := tabOf Tryd.prog NT0) P
        have hlh := hl.ext he (Nat.le_refl _)
        by_cases hk0 : k = 0
        · subst hk0
          have c7 : ((0 : Int) < ((0 : Nat) : Int)) = False := by decide
          have c7' : ((0 : Int) < 0) = False := by decide
          simp only [core, Nat.reduceAdd, Nat.reduceSub, Nat.reduceMul, Nat.reduceLT, Nat.reduceEqDiff, reduceCtorEq, Nat.reduceLeDiff, Int.reduceLE, Int.reduceLT, Int.reduceToNat, hn, g1, g3, g8, g17, c7, c7']
          refine (awake8_x ((EH.2 _ lt).trans hT)).mono ?_
          rintro _ h6 ⟨e6, rfl⟩
          simp only [core, Nat.reduceAdd, Nat.reduceSub, Nat.reduceMul, Nat.reduceLT, Nat.reduceEqDiff, reduceCtorEq, Nat.reduceLeDiff, Int.reduceLE, Int.reduceLT, Int.reduceToNat, hn, g1, g3, g8, g17]
        · have c7 : ((0 : Int) < (k : Int)) = True := by simp only [eq_iff_iff, iff_true]; omega
          have hwk : IntKind.i64.wrap ((k : Int) - 1) = ((k - 1 : Nat) : Int) := (wrap_in (by omega) (by omega)).trans (by omega)
          simp only [core, Nat.reduceAdd, Nat.reduceSub, Nat.reduceMul, Nat.reduceLT, Nat.reduceEqDiff, reduceCtorEq, Nat.reduceLeDiff, Int.reduceLE, Int.reduceLT, Int.reduceToNat, hn, g1, g3, g8, g17, c7, hwk, LP, lp, o1, o2, o3]
          refine (selectC_x q ((k - 1 : Nat) : Int) (hm.ext EH (Nat.le_refl _)) hok hlo).mono ?_
          rintro vs h6 ⟨e6, hs⟩
          obtain ⟨w, hw⟩ := hpre (k - 1) (by omega)
          obtain ⟨ys, hys⟩ : ∃ ys, ys = selectF m q ((k - 1 : Nat) : Int) := ⟨_, rfl⟩
          rw [← hys] at hs hw
          have s1 := hs.isSl
          have s2 := hs.lenD
          have hyl : ys.length ≤ xs.length := by rw [← hw, List.length_append]; omega
          have c8 : ((xs.length : Int) < (ys.length : Int)) = False := by simp only [eq_iff_iff, iff_false]; omega
          have hl6 := hlh.ext e6 (Nat.le_refl _)
          have hcap : CapOk 1 vl := by obtain ⟨L, -, -, hc, -⟩ := hl6.out; exact hc
          have hle2 : ((ys.length : Nat) : Int) ≤ (xs.length : Int) := by omega
          have hsub : IsSl RInt (fun b => h4.n ≤ b) h6 (subSl 1 0 ys.length vl) ((xs.take ys.length).drop 0) := hl6.sub (l := 0) (r := ys.length) (Nat.zero_le _) hyl
          have hte : (xs.take ys.length).drop 0 = ys := by rw [List.drop_zero, ← hw, List.take_left]
          rw [hte] at hsub
          have u1 := hsub.isSl
          simp only [core, Nat.reduceAdd, Nat.reduceSub, Nat.reduceMul, Nat.reduceLT, Nat.reduceEqDiff, reduceCtorEq, Nat.reduceLeDiff, Int.reduceLE, Int.reduceLT, Int.reduceToNat, hn, g1, g3, g8, g17, s1, s2, l1, l2, c8, hcap, hyl, hle2, u1]
          refine (ints_x hs hsub (by omega)).mono ?_
          rintro _ h7 ⟨rfl, rfl⟩
          rw [beq_self_eq_true]
          simp only [core, Nat.reduceAdd, Nat.reduceSub, Nat.reduceMul, Nat.reduceLT, Nat.reduceEqDiff, reduceCtorEq, Nat.reduceLeDiff, Int.reduceLE, Int.reduceLT, Int.reduceToNat, hn, g1, g3, g8, g17, aundef]
          refine ih (k - 1) _ _ ⟨by omega, he.step e6, ?_⟩ (by omega)
          simp only [core, Nat.reduceAdd, Nat.reduceSub, Nat.reduceMul, Nat.reduceLT, Nat.reduceEqDiff, reduceCtorEq, Nat.reduceLeDiff, Int.reduceLE, Int.reduceLT, Int.reduceToNat, hn, g1, g3, g8, g17]
      · refine ⟨Nat.le_refl _, he, ?_⟩
        simp only [core, Nat.reduceAdd, Nat.reduceSub, Nat.reduceMul, Nat.reduceLT, Nat.reduceEqDiff, reduceCtorEq, Nat.reduceLeDiff, Int.reduceLE, Int.reduceLT, Int.reduceToNat, hn, g1, g2, g3, g7, g8, g52, g53, g54]
    · refine ⟨Ext.refl _ _, ?_⟩
      simp only [core, Nat.reduceAdd, Nat.reduceSub, Nat.reduceMul, Nat.reduceLT, Nat.reduceEqDiff, reduceCtorEq, Nat.reduceLeDiff, Int.reduceLE, Int.reduceLT, Int.reduceToNat, l1, l2, r1]
      (repeat' apply And.intro) <;> first | rfl | trivial
end Go.Proofs.YtkgbeihcepociaaDoor.Ex
namespace Go.Proofs.YtkgbeihcepociaaDoor
open Go.RowKit Go.ChangeShapes Go.WideShapes Go.ChangeAt
set_option maxRecDepth 100000 in
theorem crushApart_walk {H : Type} {enc : TypeId × Value → H} {W : World} (htab : Lib.TabIs Tryd.prog W "internal/strconv.uint64pow10" .u64 Lib.pow10Tab) {base : Nat} {v0 v1 v2 : Value} {d0 d1 d2 : DataW H} {p0 p1 p2 : List MemPlace}
    (k0 : Value.okWide Tryd.prog W .any base 26 v0) (h0 : DataW.Trod enc Tryd.prog W 0 (fun _ => true) true 26 v0 d0 p0)
    (k1 : Value.okWide Tryd.prog W .any base 27 v1) (h1 : DataW.Trod enc Tryd.prog W 0 (fun _ => true) true 27 v1 d1 p1)
    (k2 : Value.okWide Tryd.prog W .any base 5 v2) (h2 : DataW.Trod enc Tryd.prog W 0 (fun _ => true) true 5 v2 d2 p2)
    {ts : List TypeId} {ds : List (DataW H)} (hsz : (DataW.weightsEach Tryd.prog ([26, 27, 5] ++ ts) ([d0, d1, d2] ++ ds)).all (· ≤ reachBytes) = true) :
    Calls Tryd.prog 5 #[v0, v1, v2] W fun e w' => e = .returned (.bool true) ∧ Below W.heap.size W w' := by
  obtain ⟨c0, a, r0, i0, ok0⟩ := Ex.open_agg (ρ := Ex.ρT) Ex.opensA_Mp Tryd.underlying26 rfl k0 h0 (weights_le hsz (j := 0) rfl rfl)
  obtain ⟨x, rfl, rfl, rfl, wfx⟩ := open_int Tryd.underlying27 k1 h1
  obtain ⟨n, rfl, rfl, rfl, wf⟩ := open_int Tryd.underlying5 k2 h2
  obtain ⟨ao, ap, ab, rfl, a1, a2, a3, -⟩ := Ex.RMp_is.1 i0
  obtain ⟨od, rfl, hod⟩ : ∃ od : Nat, n = (od : Int) ∧ od < 256 := by
    simp only [Lit.wf, IntKind.min, IntKind.max, IntKind.signed, IntKind.bits] at wf
    simp at wf
    exact ⟨n.toNat, by omega, by omega⟩
  exact Ex.law_joinT htab (Ex.rels_cons r0 (Ex.rels_cons (Ex.rel_lit rfl) (Ex.rels_cons (Ex.rel_lit rfl) Ex.rels_nil))) fun e hT => Ex.crushApart_m x od hod ⟨a1, a2, a3⟩ (Ex.OkMp.okM ok0) ok0.1.1 hT
end Go.Proofs.YtkgbeihcepociaaDoor
end
