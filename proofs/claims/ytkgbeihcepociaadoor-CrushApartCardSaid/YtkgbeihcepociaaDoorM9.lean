/- Part 9 of the proof: Wd8, Tel, Tk, Try, Pl1, Trp, Cpy, Sel, Tre, Psh. -/
import Derived.Lib.ItoaLen
import Derived.Test.YtkgbeihcepociaaDoorM8
section

set_option linter.unusedSimpArgs false
set_option linter.unusedVariables false
set_option maxRecDepth 10000
set_option maxHeartbeats 4000000
namespace Go.Proofs.YtkgbeihcepociaaDoor.Ex
open Go
theorem wide8_x {F : Nat → Prop} {H : AH} {m : MapD} {vo vp vb : AV} (hm : MpAt F H m vo vp vb) (hok : OkM m) :
    WC Tryd.prog (tabOf Tryd.prog NT0) S0 7 [mpV m vo vp vb] H fun r h' => Ext H.n H h' ∧ ∃ b, r = .lit (.bool b) ∧ (b = false → m.buckets.length ≤ 40) := by
  refine WC_fn Tryd.func7 rfl rfl ?_
  obtain ⟨hl, hbs, -⟩ := id hok
  unfold Sm at hl
  have s1 := hm.b.isSl
  have s2 := hm.b.lenD
  have o1 := hm.o.one
  have o2 := hm.p.one
  have o3 := hm.b.one
  simp only [core, Nat.reduceAdd, Nat.reduceSub, Nat.reduceMul, Nat.reduceLT, Nat.reduceEqDiff, reduceCtorEq, Nat.reduceLeDiff, Int.reduceLE, Int.reduceLT, Int.reduceToNat, Tryd.ntmps7, mpV, s1, s2, o1, o2, o3]
  obtain ⟨h1, hh1⟩ : ∃ h1, h1 = H.push (.cells [.lit (.int .i64 m.epoch), vo, vp, vb, .lit (.int .i64 m.leaf)] 26) := ⟨_, rfl⟩
  have E1 : Ext H.n H h1 := hh1 ▸ (Ext.refl _ _).push _ (Nat.le_refl _)
  have P1 : h1.at H.n = some (.cells [.lit (.int .i64 m.epoch), vo, vp, vb, .lit (.int .i64 m.leaf)] 26) := hh1 ▸ at_push_n _ _
  rw [← hh1]
  clear hh1
  have lp1 := at_lt P1
  have LP1 := ld_at (T := tabOf Tryd.prog NT0) P1
  refine WB_for m.buckets.length (fun i t h => (∃ n, t.get 3 = .lit (.int .i64 n)) ∧ Ext h1.n h1 h ∧ t.n = 27 ∧ t.get 1 = .ptr H.n 0 ∧ t.get 7 = vb ∧ t.get 8 = .lit (.int .i64 m.buckets.length) ∧ t.get 9 = .lit (.int .i64 i)) ?_ ?_ _ _ ?_
  · rintro i t h hlt hc ⟨⟨n, g3⟩, he, hn, g1, g7, g8, g9⟩ ih
    obtain ⟨x, hx⟩ : ∃ x, m.buckets[i]? = some x := ⟨_, List.getElem?_eq_getElem hlt⟩
    have EH := E1.step he
    obtain ⟨c, hc1, hld, hld0⟩ := hm.b.atE (T := tabOf Tryd.prog NT0) EH RBkt_z hx
    obtain ⟨va, vw, rfl, ha, hw, i1, i2⟩ := RBkt_is.1 hc1
    have a1 := ha.one
    have w1 := hw.one
    have a2 := ha.isSl
    have a3 := ha.lenD
    have hws := wrap_succ hlt (by omega)
    simp only [core, Nat.reduceAdd, Nat.reduceSub, Nat.reduceMul, Nat.reduceLT, Nat.reduceEqDiff, reduceCtorEq, Nat.reduceLeDiff, Int.reduceLE, Int.reduceLT, Int.reduceToNat, hn, g1, g7, g8, g9, g3, hlt, hc, hws, s1, s2, hld, hld0, a1, w1, a2, a3]
    refine ih _ _ ⟨⟨IntKind.i64.wrap (n + x.items.length), by simp only [core, Nat.reduceAdd, Nat.reduceSub, Nat.reduceMul, Nat.reduceLT, Nat.reduceEqDiff, reduceCtorEq, Nat.reduceLeDiff, Int.reduceLE, Int.reduceLT, Int.reduceToNat, hn, g1, g7, g8, g9, g3]⟩, he.push _ he.1, by simp only [core, Nat.reduceAdd, Nat.reduceSub, Nat.reduceMul, Nat.reduceLT, Nat.reduceEqDiff, reduceCtorEq, Nat.reduceLeDiff, Int.reduceLE, Int.reduceLT, Int.reduceToNat, hn, g1, g7, g8, g9]⟩
  · rintro t h hc ⟨⟨n, g3⟩, he, hn, g1, g7, g8, g9⟩
    have P := (he.2 _ lp1).trans P1
    have lp := at_lt P
    have LP := ld_at (T := tabOf Tryd.prog NT0) P
    have EH := E1.step he
    by_cases hb : (40 : Int) < (m.buckets.length : Int)
    · simp only [core, Nat.reduceAdd, Nat.reduceSub, Nat.reduceMul, Nat.reduceLT, Nat.reduceEqDiff, reduceCtorEq, Nat.reduceLeDiff, Int.reduceLE, Int.reduceLT, Int.reduceToNat, hn, g1, g7, g8, g9, g3, hc, LP, lp, s1, s2, hb]
      exact ⟨EH, true, rfl, fun h => by cases h⟩
    · simp only [core, Nat.reduceAdd, Nat.reduceSub, Nat.reduceMul, Nat.reduceLT, Nat.reduceEqDiff, reduceCtorEq, Nat.reduceLeDiff, Int.reduceLE, Int.reduceLT, Int.reduceToNat, hn, g1, g7, g8, g9, g3, hc, LP, lp, s1, s2, hb]
      exact ⟨EH, _, rfl, fun _ => by omega⟩
  · refine ⟨⟨0, by simp only [core, Nat.reduceAdd, Nat.reduceSub, Nat.reduceMul, Nat.reduceLT, Nat.reduceEqDiff, reduceCtorEq, Nat.reduceLeDiff, Int.reduceLE, Int.reduceLT, Int.reduceToNat]⟩, Ext.refl _ _, ?_⟩
    simp only [core, Nat.reduceAdd, Nat.reduceSub, Nat.reduceMul, Nat.reduceLT, Nat.reduceEqDiff, reduceCtorEq, Nat.reduceLeDiff, Int.reduceLE, Int.reduceLT, Int.reduceToNat]
    (repeat' apply And.intro) <;> first | rfl | trivial
/-! Up from an item. -/
def upF (m : MapD) (k : Int) : Nat → Int → Int → Option Int
  | 0, _, _ => none
  | n + 1, a, is => if is = k then some a else match parentF m a with
    | none => none
    | some b => upF m k n b.id b.kind
def underF (m : MapD) (osd k : Int) : Option Int := if goodF m then (if 0 ≤ osd ∧ osd < 8 then upF m k 5 osd 0 else none) else none
theorem parent_kind {m : MapD} (hg : goodF m = true) {a : Int} {b : BktD} (hp : parentF m a = some b) : b ∈ m.buckets ∧ b.id < 0 ∧ 1 ≤ b.kind ∧ b.kind ≤ 3 ∧ 0 ≤ kindF m a ∧ kindF m a < b.kind ∧ kindF m b.id = b.kind := by
  unfold parentF at hp
  have hmem := List.mem_of_find?_eq_some hp
  have hcon := List.find?_some hp
  obtain ⟨j, hj⟩ := List.mem_iff_getElem?.1 hmem
  have hjl := (List.getElem?_eq_some_iff.1 hj).1
  have hg0 := hg
  unfold goodF at hg
  simp only [Bool.and_eq_true, List.all_eq_true] at hg
  have h1 := hg.2 j (List.mem_range.2 hjl)
  rw [getD_of hj] at h1
  unfold bOk at h1
  simp only [Bool.and_eq_true, List.all_eq_true] at h1
  obtain ⟨⟨hh, -⟩, hi⟩ := h1
  unfold hdOk at hh
  simp only [Bool.and_eq_true, decide_eq_true_eq] at hh
  obtain ⟨⟨⟨⟨h5, h6⟩, h7⟩, h8⟩, -⟩ := hh
  obtain ⟨k, hk, rfl⟩ := List.mem_iff_getElem.1 (List.contains_iff_mem.1 hcon)
  have h2 := hi k (List.mem_range.2 hk)
  unfold itemOk at h2
  simp only [Bool.and_eq_true, decide_eq_true_eq] at h2
  have e : b.items.getD k 0 = b.items[k] := by rw [List.getD_eq_getElem?_getD, List.getElem?_eq_getElem hk]; rfl
  rw [e] at h2
  refine ⟨hmem, h6, h7, h8, h2.1.1, h2.1.2, ?_⟩
  have hb : bucketF m b.id = some b := by
    unfold bucketF
    rw [List.find?_eq_some_iff_getElem]
    refine ⟨beq_self_eq_true _, j, hjl, (List.getElem?_eq_some_iff.1 hj).2, fun i hij => ?_⟩
    simp only [Bool.not_eq_true'] at h5 ⊢
    have := List.any_eq_false.1 h5 m.buckets[i] (by
      rw [List.mem_take_iff_getElem]
      exact ⟨i, by omega, rfl⟩)
    simpa using this
  exact kind_bkt h6 hb
theorem under_x {F : Nat → Prop} {H : AH} {m : MapD} {vo vp vb : AV} (osd k : Int) (hm : MpAt F H m vo vp vb) (hok : OkM m) :
    WC Tryd.prog (tabOf Tryd.prog NT0) S0 18 [mpV m vo vp vb, .lit (.int .i64 osd), .lit (.int .i64 k)] H fun v h' => Ext H.n H h' ∧ v = optV (underF m osd k) := by
  refine WC_fn Tryd.func18 rfl rfl ?_
  obtain ⟨hl, hbs, -⟩ := id hok
  have o1 := hm.o.one
  have o2 := hm.p.one
  have o3 := hm.b.one
  simp only [core, Nat.reduceAdd, Nat.reduceSub, Nat.reduceMul, Nat.reduceLT, Nat.reduceEqDiff, reduceCtorEq, Nat.reduceLeDiff, Int.reduceLE, Int.reduceLT, Int.reduceToNat, Tryd.ntmps18, mpV, o1, o2, o3]
  obtain ⟨h1, hh1⟩ : ∃ h1, h1 = H.push (.cells [.lit (.int .i64 m.epoch), vo, vp, vb, .lit (.int .i64 m.leaf)] 26) := ⟨_, rfl⟩
  have E1 : Ext H.n H h1 := hh1 ▸ (Ext.refl _ _).push _ (Nat.le_refl _)
  have P1 : h1.at H.n = some (.cells [.lit (.int .i64 m.epoch), vo, vp, vb, .lit (.int .i64 m.leaf)] 26) := hh1 ▸ at_push_n _ _
  rw [← hh1]
  clear hh1
  have lp1 := at_lt P1
  have LP1 := ld_at (T := tabOf Tryd.prog NT0) P1
  refine (goodC_x (hm.ext E1 (Nat.le_refl _)) hok).mono ?_
  rintro _ h2 ⟨e2, rfl⟩
  have E2 := E1.step e2
  cases hg : goodF m with
  | false =>
    simp only [core, Nat.reduceAdd, Nat.reduceSub, Nat.reduceMul, Nat.reduceLT, Nat.reduceEqDiff, reduceCtorEq, Nat.reduceLeDiff, Int.reduceLE, Int.reduceLT, Int.reduceToNat]
    exact ⟨E2, by unfold underF; rw [hg]; rfl⟩
  | true =>
  have P2 := (e2.2 _ lp1).trans P1
  have lp2 := at_lt P2
  have LP2 := ld_at (T := tabOf Tryd.prog NT0) P2
  by_cases c0 : osd < 0
  · simp only [core, Nat.reduceAdd, Nat.reduceSub, Nat.reduceMul, Nat.reduceLT, Nat.reduceEqDiff, reduceCtorEq, Nat.reduceLeDiff, Int.reduceLE, Int.reduceLT, Int.reduceToNat, c0]
    refine ⟨E2, ?_⟩
    unfold underF
    rw [hg, if_pos rfl, if_neg (by omega)]
    rfl
  by_cases c8 : 8 ≤ osd
  · simp only [core, Nat.reduceAdd, Nat.reduceSub, Nat.reduceMul, Nat.reduceLT, Nat.reduceEqDiff, reduceCtorEq, Nat.reduceLeDiff, Int.reduceLE, Int.reduceLT, Int.reduceToNat, c0, c8]
    refine ⟨E2, ?_⟩
    unfold underF
    rw [hg, if_pos rfl, if_neg (by omega)]
    rfl
  simp only [core, Nat.reduceAdd, Nat.reduceSub, Nat.reduceMul, Nat.reduceLT, Nat.reduceEqDiff, reduceCtorEq, Nat.reduceLeDiff, Int.reduceLE, Int.reduceLT, Int.reduceToNat, c0, c8, LP2, lp2, o1, o2, o3]
  have hU : underF m osd k = upF m k 5 osd 0 := by unfold underF; rw [hg, if_pos rfl, if_pos (by omega)]
  rw [hU]
  refine (parent_x osd (hm.ext E2 (Nat.le_refl _)) hl hbs).mono ?_
  rintro _ h3 ⟨e3, va, vw, rfl, b1, b2⟩
  have E3 := E2.step e3
  have P3 := (e3.2 _ lp2).trans P2
  have lp3 := at_lt P3
  have q1 := b1.one
  have q2 := b2.one
  simp only [core, Nat.reduceAdd, Nat.reduceSub, Nat.reduceMul, Nat.reduceLT, Nat.reduceEqDiff, reduceCtorEq, Nat.reduceLeDiff, Int.reduceLE, Int.reduceLT, Int.reduceToNat, bktV, q1, q2]
  have hn3 := E3.1
  refine WB_ind (fun (n : Nat) t h => ∃ a is va vw, h3.n < h.n ∧ (∀ b, b < h3.n → h.at b = h3.at b) ∧ kindF m a = is ∧ 0 ≤ is ∧ 5 ≤ is + n ∧ 1 ≤ n ∧ upF m k n a is = upF m k 5 osd 0 ∧ AV.one va = true ∧ AV.one vw = true ∧ h.at h3.n = some (.cells [.lit (.int .i64 (parentG m a).id), .lit (.int .i64 (parentG m a).kind), va, vw] 47) ∧ t.n = 44 ∧ t.get 1 = .lit (.int .i64 osd) ∧ t.get 2 = .lit (.int .i64 k) ∧ t.get 3 = .ptr H.n 0 ∧ t.get 8 = .lit (.int .i64 a) ∧ t.get 9 = .lit (.int .i64 is) ∧ t.get 10 = .ptr h3.n 0 ∧ t.get 11 = .lit (.bool (parentF m a).isSome)) (fun n => n) ?_ 5 _ _ ?_
  · rintro n t h ⟨a, is, va, vw, hn, hk, hkd, h0, hsum, h1n, hU, q1, q2, B, hn, g1, g2, g3, g8, g9, g10, g11⟩ ih
    obtain ⟨n, rfl⟩ : ∃ n', n = n' + 1 := ⟨n - 1, by omega⟩
    have EH : Ext H.n H h := ⟨by omega, fun b hb => (hk b (by omega)).trans (E3.2 b hb)⟩
    have P := (hk H.n lp3).trans P3
    have lp := at_lt P
    have LP := ld_at (T := tabOf Tryd.prog NT0) P
    have LB := ld_at (T := tabOf Tryd.prog NT0) B
    have lb := at_lt B
    rw [upF] at hU
    by_cases hik : is = k
    · have c1 : (is != k) = false := by rw [hik]; exact bne_self_eq_false _
      rw [if_pos hik] at hU
      simp only [core, Nat.reduceAdd, Nat.reduceSub, Nat.reduceMul, Nat.reduceLT, Nat.reduceEqDiff, reduceCtorEq, Nat.reduceLeDiff, Int.reduceLE, Int.reduceLT, Int.reduceToNat, hn, g1, g2, g3, g8, g9, g10, g11, c1]
      refine ⟨EH, ?_⟩
      rw [← hU]
      rfl
    · have c1 : (is != k) = true := by rw [bne_iff_ne]; exact hik
      rw [if_neg hik] at hU
      cases hp : parentF m a with
      | none =>
        rw [hp] at hU
        simp only [core, Nat.reduceAdd, Nat.reduceSub, Nat.reduceMul, Nat.reduceLT, Nat.reduceEqDiff, reduceCtorEq, Nat.reduceLeDiff, Int.reduceLE, Int.reduceLT, Int.reduceToNat, hn, g1, g2, g3, g8, g9, g10, g11, c1, hp, Option.isSome_none]
        refine ⟨EH, ?_⟩
        rw [← hU]
        rfl
      | some b =>
        rw [hp] at hU
        have hG : parentG m a = b := by unfold parentG; rw [hp]; rfl
        rw [hG] at B LB
        obtain ⟨z1, z2, z3, z4, z5, z6, z7⟩ := parent_kind hg hp
        simp only [core, Nat.reduceAdd, Nat.reduceSub, Nat.reduceMul, Nat.reduceLT, Nat.reduceEqDiff, reduceCtorEq, Nat.reduceLeDiff, Int.reduceLE, Int.reduceLT, Int.reduceToNat, hn, g1, g2, g3, g8, g9, g10, g11, c1, hp, hG, Option.isSome_some]
        rw [WB_regionD [0, 1, 2, 3, 4, 5] 33337376832 (by kernel_rfl)]
        repeat ((with_reducible refine WDM_cons ?_; simp only [dw1]; try simp only [dw2, Nat.reduceAdd, Nat.reduceMul, Nat.reduceShiftRight, Nat.reduceMod, Nat.reduceEqDiff]); simp only [core, Nat.reduceAdd, Nat.reduceSub, Nat.reduceMul, Nat.reduceLT, Nat.reduceEqDiff, reduceCtorEq, Nat.reduceLeDiff, Int.reduceLE, Int.reduceLT, Int.reduceToNat, cored, hn, g1, g2, g3, g8, g9, g10, g11, LB, lb])
        simp only [core, Nat.reduceAdd, Nat.reduceSub, Nat.reduceMul, Nat.reduceLT, Nat.reduceEqDiff, reduceCtorEq, Nat.reduceLeDiff, Int.reduceLE, Int.reduceLT, Int.reduceToNat, hn, g1, g2, g3, g8, g9, g10, g11, LP, lp, o1, o2, o3]
        refine (parent_x b.id (hm.ext EH (Nat.le_refl _)) hl hbs).mono ?_
        rintro _ h4 ⟨e4, vc, vd, rfl, d1, d2⟩
        have r1 := d1.one
        have r2 := d2.one
        have B4 := (e4.2 _ lb).trans B
        have lb4 := at_lt B4
        simp only [core, Nat.reduceAdd, Nat.reduceSub, Nat.reduceMul, Nat.reduceLT, Nat.reduceEqDiff, reduceCtorEq, Nat.reduceLeDiff, Int.reduceLE, Int.reduceLT, Int.reduceToNat, hn, g1, g2, g3, g8, g9, g10, g11, bktV, r1, r2, B4, lb4]
        refine ih n _ _ ⟨b.id, b.kind, vc, vd, by rw [n_put]; exact lb4, fun x hx => (at_put_ne _ (by omega)).trans ((e4.2 x (by omega)).trans (hk x hx)), z7, by omega, by omega, by omega, hU, r1, r2, at_put_same _ lb4, ?_⟩ (by omega)
        simp only [core, Nat.reduceAdd, Nat.reduceSub, Nat.reduceMul, Nat.reduceLT, Nat.reduceEqDiff, reduceCtorEq, Nat.reduceLeDiff, Int.reduceLE, Int.reduceLT, Int.reduceToNat, hn, g1, g2, g3, g8, g9, g10, g11]
  · refine ⟨osd, 0, va, vw, by rw [n_push]; omega, fun b hb => at_push_lt _ hb, ?_, by omega, by omega, by omega, rfl, q1, q2, at_push_n _ _, ?_⟩
    · unfold kindF; rw [if_pos (by omega), if_pos (by omega)]
    · simp only [core, Nat.reduceAdd, Nat.reduceSub, Nat.reduceMul, Nat.reduceLT, Nat.reduceEqDiff, reduceCtorEq, Nat.reduceLeDiff, Int.reduceLE, Int.reduceLT, Int.reduceToNat]
end Go.Proofs.YtkgbeihcepociaaDoor.Ex
end

section

set_option linter.unusedSimpArgs false
set_option linter.unusedVariables false
set_option maxRecDepth 10000
set_option maxHeartbeats 4000000
namespace Go.Proofs.YtkgbeihcepociaaDoor.Ex
open Go
section
variable {P : Program} {T : TT} {t : TM} {h : AH} {d : Option Tmp} {ty : TypeId} {ps : String} {af : Array Edge} {g : Option (Nat × Bool)}
theorem pur_sadd {e : TypeId} {a b : ByteArray} (hs : a.size + b.size ≤ 4611686018427387904) : pur P (binOp .add e (Value.string a) (Value.string b)) = some (.ok (Value.string (a ++ b))) := by
  show pur P (if ((a.size + b.size : Nat) : Int) > IntKind.i64.max then _ else pure (Value.string (a ++ b))) = _
  rw [if_neg (by show ¬ ((9223372036854775807 : Int) < _); omega)]
  rfl
/-- One of four names. -/
def nmM (h : AH) (r : AR) : AV → AV → AR
  | .agg [.lit (.string a), .lit (.string b), .lit (.string c), .lit (.string e)], .lit (.int _ n) => if 0 ≤ n ∧ n ≤ 3 then some (.val (.lit (.string (if n = 0 then a else if n = 1 then b else if n = 2 then c else e))), h) else r
  | _, _ => r
theorem nmM_eq {r : AR} {a b c e : ByteArray} {k : IntKind} {n : Int} : nmM h r (.agg [.lit (.string a), .lit (.string b), .lit (.string c), .lit (.string e)]) (.lit (.int k n)) = if 0 ≤ n ∧ n ≤ 3 then some (.val (.lit (.string (if n = 0 then a else if n = 1 then b else if n = 2 then c else e))), h) else r := rfl
theorem a_idx_nm {i j : Nat} : aop Tryd.prog (tabOf Tryd.prog NT0) ⟨d, .index 60 (.tmp i) (.tmp j), ty, ps, af, g⟩ t h = nmM h (aIdxR Tryd.prog (tabOf Tryd.prog NT0) ⟨d, .index 60 (.tmp i) (.tmp j), ty, ps, af, g⟩ t h 60 (.tmp i) (.tmp j)) (t.get i) (t.get j) := by
  unfold nmM
  split
  · rename_i a b c e k n h1 h2
    split
    · rename_i hn
      show aIndex _ _ _ _ _ _ _ _ = _
      have e1 : litEnv t (.tmp i) = .agg #[.string a, .string b, .string c, .string e] := by simp [litEnv, ev_tmp, h1, toVal, toScals, scal]
      have e2 : litEnv t (.tmp j) = .int k n := by simp [litEnv, ev_tmp, h2, toVal]
      have hcase : n = 0 ∨ n = 1 ∨ n = 2 ∨ n = 3 := by omega
      have key : ∀ s, pur Tryd.prog (Instr.index 60 (.agg #[.string a, .string b, .string c, .string e]) (.int k n)) = some (.ok (.string s)) → aIndex Tryd.prog (tabOf Tryd.prog NT0) ⟨d, .index 60 (.tmp i) (.tmp j), ty, ps, af, g⟩ t h 60 (.tmp i) (.tmp j) = some (.val (.lit (.string s)), h) := fun s he => by
        have hk : ∀ (f : Value → Sem Next), pur Tryd.prog (Instr.index 60 (.agg #[.string a, .string b, .string c, .string e]) (.int k n) >>= f) = pur Tryd.prog (f (.string s)) := fun f => by
          generalize Instr.index 60 (.agg #[.string a, .string b, .string c, .string e]) (.int k n) = q at he
          induction q with
          | pure x => simp [pur] at he; subst he; rfl
          | halt r => cases r <;> simp [pur] at he
          | program k ih => exact ih _ he
          | mark e k ih => exact ih he
          | _ => simp [pur] at he
        have h0 : litOp Tryd.prog ⟨d, .index 60 (.tmp i) (.tmp j), ty, ps, af, g⟩ t = some (.val (.lit (.string s))) := by
          unfold litOp
          rw [if_pos (by simp [notSelect, Op.operands, litAll, ev_tmp, h1, h2, toVal, toScals, scal])]
          simp only [execOp, e1, e2, hk]
          rfl
        unfold aIndex orLit
        rw [h0]
      rcases hcase with rfl | rfl | rfl | rfl
      · exact key a (by kernel_rfl)
      · exact key b (by kernel_rfl)
      · exact key c (by kernel_rfl)
      · exact key e (by kernel_rfl)
    · rfl
  · rfl
theorem ofPV_str {s : ByteArray} : ofPV h (some (.ok (Value.string s))) = some (.val (.lit (.string s)), h) := rfl
end
theorem str_size (a b : ByteArray) : (a ++ b).size = a.size + b.size := ByteArray.size_append
def itoaB (n : Int) : ByteArray := ⟨(Lib.itoa n).toArray⟩
theorem itoaB_size {n : Int} (h : I64 n) : (itoaB n).size ≤ 21 := by
  show (Lib.itoa n).toArray.size ≤ 21
  rw [List.size_toArray]
  exact Lib.itoa_length_le n h.1 (by have := h.2; omega)
def nameF (k : Int) : ByteArray := if k = 0 then ⟨#[111, 115, 100]⟩ else if k = 1 then ⟨#[104, 111, 115, 116]⟩ else if k = 2 then ⟨#[114, 97, 99, 107]⟩ else ⟨#[114, 111, 111, 116]⟩
theorem nameF_size (k : Int) : (nameF k).size ≤ 4 := by
  unfold nameF
  split
  · decide
  · split
    · decide
    · split
      · decide
      · decide
def lineF (ahead : ByteArray) (k id w : Int) : ByteArray := ahead ++ nameF k ++ ⟨#[32]⟩ ++ itoaB id ++ ⟨#[32]⟩ ++ itoaB w
/-- All of a row of lists, up to a place. -/
def upto (f : Nat → List ByteArray) (i : Nat) : List ByteArray := (List.range i).flatMap f
/-- The lines of an item. -/
def tellF (m : MapD) : Nat → Int → Int → ByteArray → List ByteArray
  | 0, _, _, _ => []
  | n + 1, id, w, ahead => lineF ahead (bucketG m id).kind id w :: upto (fun k => tellF m n ((bucketG m id).items.getD k 0) ((bucketG m id).weights.getD k 0) (ahead ++ ⟨#[32, 32]⟩)) (bucketG m id).items.length
theorem kindG {m : MapD} (hg : goodF m = true) {a : Int} (h0 : 0 ≤ kindF m a) : (bucketG m a).kind = kindF m a := by
  unfold kindF at h0 ⊢
  by_cases ha : 0 ≤ a
  · rw [if_pos ha] at h0 ⊢
    have hb : bucketF m a = none := by
      cases hb : bucketF m a with
      | none => rfl
      | some b =>
        obtain ⟨u1, u2, u3, u4, u5, u6, u7, u8⟩ := good_bkt hg hb
        have : b.id = a := by
          exact u2
        omega
    have e : bucketG m a = bkt0 := by unfold bucketG; rw [hb]; rfl
    rw [e]
    split at h0
    · rename_i h8; rw [if_pos h8]; rfl
    · omega
  · rw [if_neg ha] at h0 ⊢
    split at h0
    · rename_i h8; rw [if_pos h8]
    · omega
theorem item_kindF {m : MapD} (hg : goodF m = true) {a : Int} {b : BktD} (hb : bucketF m a = some b) {i : Nat} (hi : i < b.items.length) : 0 ≤ kindF m (b.items.getD i 0) ∧ kindF m (b.items.getD i 0) < b.kind := by
  obtain ⟨u1, u2, u3, u4, u5, u6, u7, u8⟩ := good_bkt hg hb
  exact u7 i hi
/-- What stands while a hierarchy is told. -/
structure TwAt (F : Nat → Prop) (h : AH) (m : MapD) (vo vp vb : AV) (e : TypeId) (pm po pt : Nat) : Prop where
  tab : h.at 1 = some (.frz tabL e)
  box : h.at pm = some (.cells [.lit (.int .i64 m.epoch), vo, vp, vb, .lit (.int .i64 m.leaf)] 26)
  fn : h.at pt = some (.cells [.fn (.func 28) [] [.ptr pm 0, .ptr po 0, .ptr pt 0]] 57)
  mp : MpAt F h m vo vp vb
theorem TwAt.keep {F : Nat → Prop} {h h' : AH} {m : MapD} {vo vp vb : AV} {e : TypeId} {pm po pt : Nat} (hF : ∀ b, F b → b < pm) (h1 : 1 < pm) (h2 : pm < po) (h3 : po < pt) (hw : TwAt F h m vo vp vb e pm po pt) (hk : ∀ b, b ≤ pt → b ≠ po → h'.at b = h.at b) : TwAt F h' m vo vp vb e pm po pt :=
  ⟨(hk 1 (by omega) (by omega)).trans hw.tab, (hk pm (by omega) (by omega)).trans hw.box, (hk pt (by omega) (by omega)).trans hw.fn,
   ⟨hw.mp.o.lift fun b hb _ => ⟨hk b (by have := hF b hb; omega) (by have := hF b hb; omega), hb⟩, hw.mp.p.lift fun b hb _ => ⟨hk b (by have := hF b hb; omega) (by have := hF b hb; omega), hb⟩, hw.mp.b.lift fun b hb _ => ⟨hk b (by have := hF b hb; omega) (by have := hF b hb; omega), hb⟩⟩⟩
/-- Blocks but two are as they were. -/
def FrS (po : Nat) (h : AH) (v : AV) (h' : AH) (v' : AV) : Prop := h.n ≤ h'.n ∧ ∀ b, b < h.n → b ≠ po → Apart v b → h'.at b = h.at b ∧ Apart v' b
theorem FrS.refl {po : Nat} {h : AH} {v : AV} : FrS po h v h v := ⟨Nat.le_refl _, fun b _ _ ha => ⟨rfl, ha⟩⟩
theorem FrS.trans {po : Nat} {h h1 h2 : AH} {v v1 v2 : AV} (a : FrS po h v h1 v1) (b : FrS po h1 v1 h2 v2) : FrS po h v h2 v2 :=
  ⟨Nat.le_trans a.1 b.1, fun x hx hp ha => by
    obtain ⟨q1, q2⟩ := a.2 x hx hp ha
    obtain ⟨q3, q4⟩ := b.2 x (Nat.lt_of_lt_of_le hx a.1) hp q2
    exact ⟨q3.trans q1, q4⟩⟩
theorem FrS.ext {po : Nat} {h h1 : AH} {v : AV} (e : Ext h.n h h1) : FrS po h v h1 v := ⟨e.1, fun b hb _ ha => ⟨e.2 b hb, ha⟩⟩
theorem OwnL.aparts {α : Type} {R : Rep α} {G : Nat → Prop} {n0 : Nat} {h : AH} {v : AV} {e : TypeId} {xs : List α} (ho : OwnL R G n0 h v e xs) {b : Nat} (hb : b < n0) : Apart v b := fun off n cap hv => by
  obtain ⟨L, h1, h2⟩ := ho
  rcases h1.2 with ⟨hh, _⟩ | ⟨p, hh, hp, hat⟩
  · rw [hh] at hv; cases hv
  · rw [hh] at hv; cases hv; omega
theorem upto_split (f : Nat → List ByteArray) {i n : Nat} (h : i ≤ n) : ∃ r, upto f n = upto f i ++ r := by
  refine ⟨((List.range n).drop i).flatMap f, ?_⟩
  unfold upto
  rw [← List.flatMap_append]
  congr 1
  rw [show List.range i = (List.range n).take i by rw [List.take_range, Nat.min_eq_left h]]
  exact (List.take_append_drop _ _).symm
theorem upto_succ (f : Nat → List ByteArray) (i : Nat) : upto f (i + 1) = upto f i ++ f i := by
  unfold upto
  rw [List.range_succ, List.flatMap_append]
  simp
theorem FrS.put {po : Nat} {h : AH} {v : AV} {x : AB} : FrS po h v (h.put po x) v := ⟨by rw [n_put]; exact Nat.le_refl _, fun b _ hb ha => ⟨at_put_ne _ (fun e => hb e.symm), ha⟩⟩
theorem tell_x {F : Nat → Prop} {m : MapD} {vo vp vb : AV} {e : TypeId} {pm po pt : Nat} (hF : ∀ b, F b → b < pm) (p1 : 1 < pm) (p2 : pm < po) (p3 : po < pt) (hok : OkM m) (hg : goodF m = true) :
    ∀ (n : Nat) {H : AH} {vs : AV} {xs : List ByteArray} (id w : Int) (ahead : ByteArray), (bucketG m id).kind < (n : Int) → ahead.size + 2 * n ≤ 1000 → I64 id → I64 w → TwAt F H m vo vp vb e pm po pt →
      H.at po = some (.cells [vs] 35) → OwnL RStr (fun _ => False) (pt + 1) H vs 9 xs → xs.length + (tellF m n id w ahead).length ≤ 1099511627776 →
      WC Tryd.prog (tabOf Tryd.prog NT0) S0 28 [.lit (.int .i64 id), .lit (.int .i64 w), .lit (.string ahead), .ptr pm 0, .ptr po 0, .ptr pt 0] H fun r h' => r = .tup [] ∧ ∃ vs', FrS po H vs h' vs' ∧ h'.at po = some (.cells [vs'] 35) ∧ OwnL RStr (fun _ => False) (pt + 1) h' vs' 9 (xs ++ tellF m n id w ahead)
  | 0, H, vs, xs, id, w, ahead, hk, _, _, _, _, _, _, _ => by
    have : 0 ≤ (bucketG m id).kind := by
      cases hb : bucketF m id with
      | none => rw [show bucketG m id = bkt0 by unfold bucketG; rw [hb]; rfl]; decide
      | some b =>
        rw [show bucketG m id = b by unfold bucketG; rw [hb]; rfl]
        obtain ⟨u1, u2, u3, u4, u5, u6, u7, u8⟩ := good_bkt hg hb
        omega
    omega
  | n + 1, H, vs, xs, id, w, ahead, hk, hsz, i1, i2, hw, hpo, ho, hlen => by
    refine WC_fn Tryd.func28 rfl rfl ?_
    obtain ⟨hl, hbs, -⟩ := _root_.id hok
    have o1 := hw.mp.o.one
    have o2 := hw.mp.p.one
    have o3 := hw.mp.b.one
    have LB := ld_at (T := tabOf Tryd.prog NT0) hw.box
    have lb := at_lt hw.box
    have lt := at_lt hw.fn
    simp only [core, Nat.reduceAdd, Nat.reduceSub, Nat.reduceMul, Nat.reduceLT, Nat.reduceEqDiff, reduceCtorEq, Nat.reduceLeDiff, Int.reduceLE, Int.reduceLT, Int.reduceToNat, Tryd.ntmps28, LB, lb, o1, o2, o3]
    refine (bucket_x id hw.mp hl hbs).mono ?_
    rintro _ h1 ⟨e1, va, vw, rfl, b1, b2⟩
    have q1 := b1.one
    have q2 := b2.one
    obtain ⟨bk, hbk⟩ : ∃ bk, bk = bucketG m id := ⟨_, rfl⟩
    rw [← hbk] at b1 b2 hk
    have hk0 : 0 ≤ bk.kind ∧ bk.kind ≤ 3 := by
      rw [hbk]
      cases hb : bucketF m id with
      | none => rw [show bucketG m id = bkt0 by unfold bucketG; rw [hb]; rfl]; decide
      | some b =>
        rw [show bucketG m id = b by unfold bucketG; rw [hb]; rfl]
        obtain ⟨u1, u2, u3, u4, u5, u6, u7, u8⟩ := good_bkt hg hb
        omega
    have hG := hbk.symm
    have hk0' : (0 ≤ bk.kind ∧ bk.kind ≤ 3) = True := by simp [hk0]
    have hnm : (if bk.kind = 0 then (⟨#[111, 115, 100]⟩ : ByteArray) else if bk.kind = 1 then ⟨#[104, 111, 115, 116]⟩ else if bk.kind = 2 then ⟨#[114, 97, 99, 107]⟩ else ⟨#[114, 111, 111, 116]⟩) = nameF bk.kind := rfl
    simp only [core, Nat.reduceAdd, Nat.reduceSub, Nat.reduceMul, Nat.reduceLT, Nat.reduceEqDiff, reduceCtorEq, Nat.reduceLeDiff, Int.reduceLE, Int.reduceLT, Int.reduceToNat, bktV, q1, q2, hG, a_idx_nm, nmM_eq, hk0', hnm]
    generalize htt : TM.set _ 11 _ = tt
    have k0 : tt.get 0 = .lit (.int .i64 id) := by rw [← htt]; simp only [core, Nat.reduceAdd, Nat.reduceSub, Nat.reduceMul, Nat.reduceLT, Nat.reduceEqDiff, reduceCtorEq, Nat.reduceLeDiff, Int.reduceLE, Int.reduceLT, Int.reduceToNat]
    have k1 : tt.get 1 = .lit (.int .i64 w) := by rw [← htt]; simp only [core, Nat.reduceAdd, Nat.reduceSub, Nat.reduceMul, Nat.reduceLT, Nat.reduceEqDiff, reduceCtorEq, Nat.reduceLeDiff, Int.reduceLE, Int.reduceLT, Int.reduceToNat]
    have k2 : tt.get 2 = .lit (.string ahead) := by rw [← htt]; simp only [core, Nat.reduceAdd, Nat.reduceSub, Nat.reduceMul, Nat.reduceLT, Nat.reduceEqDiff, reduceCtorEq, Nat.reduceLeDiff, Int.reduceLE, Int.reduceLT, Int.reduceToNat]
    have k4 : tt.get 4 = .ptr po 0 := by rw [← htt]; simp only [core, Nat.reduceAdd, Nat.reduceSub, Nat.reduceMul, Nat.reduceLT, Nat.reduceEqDiff, reduceCtorEq, Nat.reduceLeDiff, Int.reduceLE, Int.reduceLT, Int.reduceToNat]
    have k5 : tt.get 5 = .ptr pt 0 := by rw [← htt]; simp only [core, Nat.reduceAdd, Nat.reduceSub, Nat.reduceMul, Nat.reduceLT, Nat.reduceEqDiff, reduceCtorEq, Nat.reduceLeDiff, Int.reduceLE, Int.reduceLT, Int.reduceToNat]
    have k9 : tt.get 9 = .ptr h1.n 0 := by rw [← htt]; simp only [core, Nat.reduceAdd, Nat.reduceSub, Nat.reduceMul, Nat.reduceLT, Nat.reduceEqDiff, reduceCtorEq, Nat.reduceLeDiff, Int.reduceLE, Int.reduceLT, Int.reduceToNat]
    have k11 : tt.get 11 = .lit (.string (nameF bk.kind)) := by rw [← htt]; simp only [core, Nat.reduceAdd, Nat.reduceSub, Nat.reduceMul, Nat.reduceLT, Nat.reduceEqDiff, reduceCtorEq, Nat.reduceLeDiff, Int.reduceLE, Int.reduceLT, Int.reduceToNat]
    have kn : tt.n = 57 := by rw [← htt]; simp only [core, Nat.reduceAdd, Nat.reduceSub, Nat.reduceMul, Nat.reduceLT, Nat.reduceEqDiff, reduceCtorEq, Nat.reduceLeDiff, Int.reduceLE, Int.reduceLT, Int.reduceToNat]
    clear htt
    obtain ⟨h2, hh2⟩ : ∃ h2, h2 = h1.push (.cells [.lit (.int .i64 bk.id), .lit (.int .i64 bk.kind), va, vw] 47) := ⟨_, rfl⟩
    have e2 : Ext h1.n h1 h2 := hh2 ▸ (Ext.refl _ _).push _ (Nat.le_refl _)
    have P2 : h2.at h1.n = some (.cells [.lit (.int .i64 bk.id), .lit (.int .i64 bk.kind), va, vw] 47) := hh2 ▸ at_push_n _ _
    have LP2 := ld_at (T := tabOf Tryd.prog NT0) P2
    have lp2 := at_lt P2
    rw [← hh2]
    clear hh2
    have E2 := e1.step e2
    have O2 := (E2.2 _ (at_lt hpo)).trans hpo
    have LO2 := ld_at (T := tabOf Tryd.prog NT0) O2
    have lo2 := at_lt O2
    have T2 := (E2.2 _ (at_lt hw.tab)).trans hw.tab
    have ho2 := ho.ext E2 (Nat.le_refl _)
    have v1 := (ho2.toSl (F := fun _ => True) (fun _ _ => trivial) (fun _ _ => trivial)).isSl
    have v2 := (ho2.toSl (F := fun _ => True) (fun _ _ => trivial) (fun _ _ => trivial)).one
    have z1 := itoaB_size i1
    have z2 := itoaB_size i2
    have z3 := nameF_size bk.kind
    have a1 : ∀ T : Program, pur T (binOp .add 9 (Value.string ahead) (Value.string (nameF bk.kind))) = some (.ok (Value.string (ahead ++ nameF bk.kind))) := fun _ => pur_sadd (by omega)
    have a2 : ∀ T : Program, pur T (binOp .add 9 (Value.string (ahead ++ nameF bk.kind)) (Value.string ⟨#[32]⟩)) = some (.ok (Value.string (ahead ++ nameF bk.kind ++ ⟨#[32]⟩))) := fun _ => pur_sadd (by rw [str_size]; show _ + 1 ≤ _; omega)
    have a3 : ∀ T : Program, pur T (binOp .add 9 (Value.string (ahead ++ nameF bk.kind ++ ⟨#[32]⟩)) (Value.string (itoaB id))) = some (.ok (Value.string (ahead ++ nameF bk.kind ++ ⟨#[32]⟩ ++ itoaB id))) := fun _ => pur_sadd (by rw [str_size, str_size]; show _ + 1 + _ ≤ _; omega)
    have a4 : ∀ T : Program, pur T (binOp .add 9 (Value.string (ahead ++ nameF bk.kind ++ ⟨#[32]⟩ ++ itoaB id)) (Value.string ⟨#[32]⟩)) = some (.ok (Value.string (ahead ++ nameF bk.kind ++ ⟨#[32]⟩ ++ itoaB id ++ ⟨#[32]⟩))) := fun _ => pur_sadd (by rw [str_size, str_size, str_size]; show _ + 1 + _ + 1 ≤ _; omega)
    have a5 : ∀ T : Program, pur T (binOp .add 9 (Value.string (ahead ++ nameF bk.kind ++ ⟨#[32]⟩ ++ itoaB id ++ ⟨#[32]⟩)) (Value.string (itoaB w))) = some (.ok (Value.string (lineF ahead bk.kind id w))) := fun _ => pur_sadd (by rw [str_size, str_size, str_size, str_size]; show _ + 1 + _ + 1 + _ ≤ _; omega)
    rw [WB_regionD [0, 1, 2, 3, 4, 5, 9, 6, 7, 8, 10, 11, 12, 13, 14] 26958712494789967439649867661944183265723450142676564771835685634048 (by kernel_rfl)]
    repeat ((with_reducible refine WDM_cons ?_; simp only [dw1]; try simp only [dw2, Nat.reduceAdd, Nat.reduceMul, Nat.reduceShiftRight, Nat.reduceMod, Nat.reduceEqDiff]); simp only [core, Nat.reduceAdd, Nat.reduceSub, Nat.reduceMul, Nat.reduceLT, Nat.reduceEqDiff, reduceCtorEq, Nat.reduceLeDiff, Int.reduceLE, Int.reduceLT, Int.reduceToNat, cored, k0, k1, k2, k4, k5, k9, k11, kn, LO2, lo2, v1, v2, a1, a2, ofPV_str])
    refine itoa_c T2 i1.1 (by have := i1.2; omega) ?_
    have hz1 : ({ data := (Lib.itoa id).toArray } : ByteArray) = itoaB id := rfl
    have hz2 : ({ data := (Lib.itoa w).toArray } : ByteArray) = itoaB w := rfl
    rw [hz1]
    repeat ((with_reducible refine WDM_cons ?_; simp only [dw1]; try simp only [dw2, Nat.reduceAdd, Nat.reduceMul, Nat.reduceShiftRight, Nat.reduceMod, Nat.reduceEqDiff]); simp only [core, Nat.reduceAdd, Nat.reduceSub, Nat.reduceMul, Nat.reduceLT, Nat.reduceEqDiff, reduceCtorEq, Nat.reduceLeDiff, Int.reduceLE, Int.reduceLT, Int.reduceToNat, cored, k0, k1, k2, k4, k5, k9, k11, kn, LO2, lo2, v1, v2, a1, a2, a3, a4, ofPV_str])
    refine itoa_c T2 i2.1 (by have := i2.2; omega) ?_
    rw [hz2]
    repeat ((with_reducible refine WDM_cons ?_; simp only [dw1]; try simp only [dw2, Nat.reduceAdd, Nat.reduceMul, Nat.reduceShiftRight, Nat.reduceMod, Nat.reduceEqDiff]); simp only [core, Nat.reduceAdd, Nat.reduceSub, Nat.reduceMul, Nat.reduceLT, Nat.reduceEqDiff, reduceCtorEq, Nat.reduceLeDiff, Int.reduceLE, Int.reduceLT, Int.reduceToNat, cored, k0, k1, k2, k4, k5, k9, k11, kn, LO2, lo2, v1, v2, a1, a2, a3, a4, a5, ofPV_str])
    obtain ⟨h3, hh3⟩ : ∃ h3, h3 = h2.push (.cells [.lit (.string (lineF ahead bk.kind id w))] 9) := ⟨_, rfl⟩
    have e3 : Ext h2.n h2 h3 := hh3 ▸ (Ext.refl _ _).push _ (Nat.le_refl _)
    have A3 : h3.at h2.n = some (.cells [.lit (.string (lineF ahead bk.kind id w))] 9) := hh3 ▸ at_push_n _ _
    rw [← hh3]
    clear hh3
    have hE2 := E2.1
    have hE3 := e3.1
    have lpt := at_lt hw.fn
    have hTE : (tellF m (n + 1) id w ahead) = lineF ahead bk.kind id w :: upto (fun k => tellF m n (bk.items.getD k 0) (bk.weights.getD k 0) (ahead ++ ⟨#[32, 32]⟩)) bk.items.length := by rw [tellF, hG]
    obtain ⟨ff, hff⟩ : ∃ ff, ff = fun k => tellF m n (bk.items.getD k 0) (bk.weights.getD k 0) (ahead ++ ⟨#[32, 32]⟩) := ⟨_, rfl⟩
    rw [← hff] at hTE
    rw [hTE] at hlen ⊢
    have hlen1 := hlen
    rw [List.length_cons] at hlen1
    refine WOpD_app ((ho2.ext e3 (Nat.le_refl _)).snoc (by kernel_rfl) (by kernel_rfl) (by kernel_rfl) (zv := .lit (.string ⟨#[]⟩)) (by kernel_rfl) (by' := 16) (by kernel_rfl) rfl (by decide) (by decide) A3 (y := lineF ahead bk.kind id w) rfl (by omega) (by omega) (by omega)) ?_
    rintro s4 h4 ⟨ho4, e4, f4⟩
    have s41 := (ho4.toSl (F := fun _ => True) (fun _ _ => trivial) (fun _ _ => trivial)).isSl
    have s42 := (ho4.toSl (F := fun _ => True) (fun _ _ => trivial) (fun _ _ => trivial)).one
    have apo : Apart vs po := ho.aparts (by omega)
    have O4 := ((f4 po (by omega) apo).1.trans (e3.2 _ lo2)).trans O2
    have lo4 := at_lt O4
    have hn4 := e4.1
    repeat ((with_reducible refine WDM_cons ?_; simp only [dw1]; try simp only [dw2, Nat.reduceAdd, Nat.reduceMul, Nat.reduceShiftRight, Nat.reduceMod, Nat.reduceEqDiff]); simp only [core, Nat.reduceAdd, Nat.reduceSub, Nat.reduceMul, Nat.reduceLT, Nat.reduceEqDiff, reduceCtorEq, Nat.reduceLeDiff, Int.reduceLE, Int.reduceLT, Int.reduceToNat, cored, k0, k1, k2, k4, k5, k9, k11, kn, O4, lo4, s41, s42])
    obtain ⟨h5, hh5⟩ : ∃ h5, h5 = h4.put po (.cells [s4] 35) := ⟨_, rfl⟩
    have O5 : h5.at po = some (.cells [s4] 35) := hh5 ▸ at_put_same _ lo4
    have ho5 : OwnL RStr (fun _ => False) (pt + 1) h5 s4 9 (xs ++ [lineF ahead bk.kind id w]) := hh5 ▸ ho4.lift (fun b off n cap hv => at_put_ne _ (fun hh => ho4.aparts (show po < pt + 1 by omega) off n cap (by rw [hh]; exact hv))) (fun b hb => hb.elim)
    have fr5 : FrS po h2 vs h5 s4 := FrS.trans (v1 := s4) ⟨by omega, fun b hb _ ha => ⟨(f4 b (by omega) ha).1.trans (e3.2 b hb), (f4 b (by omega) ha).2⟩⟩ (hh5 ▸ FrS.put)
    have n5 : h5.n = h4.n := by rw [hh5, n_put]
    rw [← hh5]
    clear hh5
    have fr05 : FrS po H vs h5 s4 := (FrS.ext E2).trans fr5
    have q5 := fr5.2 h1.n lp2 (by have := at_lt hpo; have := e1.1; omega) (ho.apart e1.1)
    have P5 := q5.1.trans P2
    have LP5 := ld_at (T := tabOf Tryd.prog NT0) P5
    have lp5 := at_lt P5
    have c1 := b1.isSl
    have c2 := b1.lenD
    have d1 := b2.isSl
    have d2 := b2.lenD
    simp only [core, Nat.reduceAdd, Nat.reduceSub, Nat.reduceMul, Nat.reduceLT, Nat.reduceEqDiff, reduceCtorEq, Nat.reduceLeDiff, Int.reduceLE, Int.reduceLT, Int.reduceToNat, kn, k2, k5, k9, LP5, lp5, c1, c2]
    have hil : bk.items.length ≤ 17592186044416 ∧ bk.items.length = bk.weights.length := by
      rw [← hG]
      cases hb : bucketF m id with
      | none => rw [show bucketG m id = bkt0 by unfold bucketG; rw [hb]; rfl]; decide
      | some b =>
        rw [show bucketG m id = b by unfold bucketG; rw [hb]; rfl]
        obtain ⟨u1, u2, u3, u4, u5, u6, u7, u8⟩ := good_bkt hg hb
        obtain ⟨w1, w2⟩ := hbs b u1
        unfold Sm at w1
        exact ⟨by omega, u6⟩
    refine WB_for bk.items.length (fun i t h => (∃ s', FrS po h5 s4 h s' ∧ h.at po = some (.cells [s'] 35) ∧ OwnL RStr (fun _ => False) (pt + 1) h s' 9 (xs ++ lineF ahead bk.kind id w :: upto ff i)) ∧ t.n = 57 ∧ t.get 2 = .lit (.string ahead) ∧ t.get 5 = .ptr pt 0 ∧ t.get 9 = .ptr h1.n 0 ∧ t.get 39 = va ∧ t.get 40 = .lit (.int .i64 bk.items.length) ∧ t.get 41 = .lit (.int .i64 i)) ?_ ?_ _ _ ?_
    · rintro i t h hlt hc ⟨⟨s', fr, hpo', ho'⟩, hn, g2, g5, g9, g39, g40, g41⟩ ih
      have hge : ∀ b, H.n ≤ b → b < h2.n → h.at b = h2.at b := fun b hb1 hb2 => by
        have hpn : b ≠ po := by have := at_lt hpo; omega
        obtain ⟨w1, w2⟩ := fr5.2 b hb2 hpn (ho.apart hb1)
        exact (fr.2 b (by have := fr5.1; omega) hpn w2).1.trans w1
      have hlo : ∀ b, b ≤ pt → b ≠ po → h.at b = H.at b := fun b hb hne => ((fr05.trans fr).2 b (by omega) hne (ho.aparts (by omega))).1
      have hwh := hw.keep hF p1 p2 p3 hlo
      have P := (hge h1.n e1.1 lp2).trans P2
      have LP := ld_at (T := tabOf Tryd.prog NT0) P
      have lp := at_lt P
      have LT := ld_at (T := tabOf Tryd.prog NT0) hwh.fn
      have lt := at_lt hwh.fn
      have hva : IsSl RInt (fun _ => True) h va bk.items := b1.lift fun b hb hlt1 => ⟨(hge b hb (by have := e2.1; omega)).trans (e2.2 b hlt1), trivial⟩
      have hvw : IsSl RInt (fun _ => True) h vw bk.weights := b2.lift fun b hb hlt1 => ⟨(hge b hb (by have := e2.1; omega)).trans (e2.2 b hlt1), trivial⟩
      have hlt2 : i < bk.weights.length := by omega
      have hldi := hva.int (T := tabOf Tryd.prog NT0) (e := 3) (by kernel_rfl) (by kernel_rfl) hlt
      have hldw := hvw.int (T := tabOf Tryd.prog NT0) (e := 3) (by kernel_rfl) (by kernel_rfl) hlt2
      have hws := wrap_succ hlt (by omega)
      have hx : bucketF m id = some bk := by
        rw [← hG]
        unfold bucketG
        cases hb : bucketF m id with
        | none =>
          rw [show bucketG m id = bkt0 by unfold bucketG; rw [hb]; rfl] at hG
          rw [← hG] at hlt
          simp [bkt0] at hlt
        | some b => rfl
      obtain ⟨y1, y2⟩ := item_kindF hg hx hlt
      have a6 : ∀ T : Program, pur T (binOp .add 9 (Value.string ahead) (Value.string ⟨#[32, 32]⟩)) = some (.ok (Value.string (ahead ++ ⟨#[32, 32]⟩))) := fun _ => pur_sadd (by show _ + 2 ≤ _; omega)
      simp only [core, Nat.reduceAdd, Nat.reduceSub, Nat.reduceMul, Nat.reduceLT, Nat.reduceEqDiff, reduceCtorEq, Nat.reduceLeDiff, Int.reduceLE, Int.reduceLT, Int.reduceToNat, hn, g2, g5, g9, g39, g40, g41, hlt, hc, hldi, c1, c2]
      rw [WB_regionD [0, 1, 2, 3, 4, 5, 6, 7, 8, 9] 632742102648946808485912248320 (by kernel_rfl)]
      repeat ((with_reducible refine WDM_cons ?_; simp only [dw1]; try simp only [dw2, Nat.reduceAdd, Nat.reduceMul, Nat.reduceShiftRight, Nat.reduceMod, Nat.reduceEqDiff]); simp only [core, Nat.reduceAdd, Nat.reduceSub, Nat.reduceMul, Nat.reduceLT, Nat.reduceEqDiff, reduceCtorEq, Nat.reduceLeDiff, Int.reduceLE, Int.reduceLT, Int.reduceToNat, cored, hn, g2, g5, g9, g39, g40, g41, LP, lp, LT, lt, c1, c2, d1, d2, hlt2, hldw, a6, ofPV_str])
      refine ⟨by simp [AV.same, fnEq], ?_⟩
      have hkc : (bucketG m (bk.items.getD i 0)).kind < (n : Int) := by rw [kindG hg y1]; omega
      have hpre : (upto ff (i + 1)).length ≤ (upto ff bk.items.length).length := by
        obtain ⟨r, hr⟩ := upto_split ff (show i + 1 ≤ bk.items.length from hlt)
        rw [hr, List.length_append]
        omega
      have hus := upto_succ ff i
      have hfi : ff i = tellF m n (bk.items.getD i 0) (bk.weights.getD i 0) (ahead ++ ⟨#[32, 32]⟩) := by rw [hff]
      rw [hus, List.length_append, hfi] at hpre
      refine (tell_x hF p1 p2 p3 hok hg n (bk.items.getD i 0) (bk.weights.getD i 0) (ahead ++ ⟨#[32, 32]⟩) hkc (by rw [str_size]; show _ + 2 + _ ≤ _; omega) (b1.i64 i hlt) (b2.i64 i hlt2) hwh hpo' ho' (by rw [List.length_append, List.length_cons]; omega)).mono ?_
      rintro _ h6 ⟨rfl, s6, fr6, hpo6, ho6⟩
      simp only [core, Nat.reduceAdd, Nat.reduceSub, Nat.reduceMul, Nat.reduceLT, Nat.reduceEqDiff, reduceCtorEq, Nat.reduceLeDiff, Int.reduceLE, Int.reduceLT, Int.reduceToNat, hn, g2, g5, g9, g39, g40, g41, hws]
      refine ih _ _ ⟨⟨s6, fr.trans fr6, hpo6, ?_⟩, ?_⟩
      · rw [hus, hfi]
        rw [List.append_assoc] at ho6
        exact ho6
      · simp only [core, Nat.reduceAdd, Nat.reduceSub, Nat.reduceMul, Nat.reduceLT, Nat.reduceEqDiff, reduceCtorEq, Nat.reduceLeDiff, Int.reduceLE, Int.reduceLT, Int.reduceToNat, hn, g2, g5, g9, g39, g40, g41]
    · rintro t h hc ⟨⟨s', fr, hpo', ho'⟩, hn, g2, g5, g9, g39, g40, g41⟩
      simp only [core, Nat.reduceAdd, Nat.reduceSub, Nat.reduceMul, Nat.reduceLT, Nat.reduceEqDiff, reduceCtorEq, Nat.reduceLeDiff, Int.reduceLE, Int.reduceLT, Int.reduceToNat, hn, g2, g5, g9, g39, g40, g41, hc]
      exact ⟨.inl trivial, s', fr05.trans fr, hpo', ho'⟩
    · refine ⟨⟨s4, FrS.refl, O5, ?_⟩, ?_⟩
      · have : upto ff 0 = [] := rfl
        rw [this]
        exact ho5
      · simp only [core, Nat.reduceAdd, Nat.reduceSub, Nat.reduceMul, Nat.reduceLT, Nat.reduceEqDiff, reduceCtorEq, Nat.reduceLeDiff, Int.reduceLE, Int.reduceLT, Int.reduceToNat, kn, k2, k5, k9]
        rfl
end Go.Proofs.YtkgbeihcepociaaDoor.Ex
end

section

set_option linter.unusedSimpArgs false
set_option linter.unusedVariables false
set_option maxRecDepth 10000
set_option maxHeartbeats 8000000
namespace Go.Proofs.YtkgbeihcepociaaDoor.Ex
open Go
/-- A chooser's cells. -/
def chC (m : MapD) (vo vp vb : AV) (x : Int) (vs vq : AV) : List AV := [.lit (.int .i64 m.epoch), vo, vp, vb, .lit (.int .i64 m.leaf), .lit (.int .u32 x), vs, vq]
theorem takes_x {F G : Nat → Prop} {H : AH} {m : MapD} {vo vp vb vs vq : AV} {x : Int} {os : List Int} {p k : Nat} (hm : MpAt F H m vo vp vb) (hl : Sm 40 m.osds) (hp : H.at p = some (.cells (chC m vo vp vb x vs vq) 52)) (hs : IsSl RInt G H vs os) (hsl : os.length ≤ 1000) :
    WC Tryd.prog (tabOf Tryd.prog NT0) S0 54 [.ptr p 0, .lit (.int .i64 k)] H fun r h' => Ext H.n H h' ∧ r = .lit (.bool (mayF m k x && !os.contains (k : Int))) := by
  refine WC_fn Tryd.func54 rfl rfl ?_
  unfold Sm at hl
  unfold chC at hp
  have s1 := hm.o.isSl
  have s2 := hm.o.lenD
  have s3 := hs.isSl
  have lp := at_lt hp
  have LP := ld_at (T := tabOf Tryd.prog NT0) hp
  by_cases hk : k < m.osds.length
  rotate_left
  · have c1 : (m.osds.length : Int) ≤ (k : Int) := by omega
    simp only [core, Nat.reduceAdd, Nat.reduceSub, Nat.reduceMul, Nat.reduceLT, Nat.reduceEqDiff, reduceCtorEq, Nat.reduceLeDiff, Int.reduceLE, Int.reduceLT, Int.reduceToNat, Tryd.ntmps54, LP, lp, s1, s2, c1]
    refine ⟨Ext.refl _ _, ?_⟩
    have : m.osds[k]? = none := List.getElem?_eq_none (by omega)
    unfold mayF
    rw [if_pos (by omega), Int.toNat_natCast, this]
    rfl
  have c1 : ¬ (m.osds.length : Int) ≤ (k : Int) := by omega
  obtain ⟨o, ho⟩ : ∃ o, m.osds[k]? = some o := ⟨_, List.getElem?_eq_getElem hk⟩
  have hres : mayF m (k : Int) x = mayO o (k : Int) x := by unfold mayF; rw [if_pos (by omega), Int.toNat_natCast, ho]
  simp only [core, Nat.reduceAdd, Nat.reduceSub, Nat.reduceMul, Nat.reduceLT, Nat.reduceEqDiff, reduceCtorEq, Nat.reduceLeDiff, Int.reduceLE, Int.reduceLT, Int.reduceToNat, Tryd.ntmps54, LP, lp, s1, s2, c1]
  refine (contains_x (k : Int) hs (by omega)).mono ?_
  rintro _ h1 ⟨rfl, rfl⟩
  cases hco : os.contains (k : Int) with
  | true =>
    simp only [core, Nat.reduceAdd, Nat.reduceSub, Nat.reduceMul, Nat.reduceLT, Nat.reduceEqDiff, reduceCtorEq, Nat.reduceLeDiff, Int.reduceLE, Int.reduceLT, Int.reduceToNat]
    exact Ext.refl _ _
  | false =>
  obtain ⟨c, hc1, hld, hld0⟩ := hm.o.atE (T := tabOf Tryd.prog NT0) (Ext.refl _ _) ROsd_z ho
  obtain ⟨rfl, -⟩ := ROsd_is.1 hc1
  simp only [core, Nat.reduceAdd, Nat.reduceSub, Nat.reduceMul, Nat.reduceLT, Nat.reduceEqDiff, reduceCtorEq, Nat.reduceLeDiff, Int.reduceLE, Int.reduceLT, Int.reduceToNat, LP, lp, s1, s2, hk, hld, hld0]
  obtain ⟨hA, hhA⟩ : ∃ hA, hA = h1.push (.cells [.lit (.bool o.ex), .lit (.bool o.up), .lit (.int .i64 o.weight), .lit (.int .i64 o.boot), .lit (.int .i64 o.upFrom), .lit (.int .i64 o.upThru)] 42) := ⟨_, rfl⟩
  have EA : Ext h1.n h1 hA := hhA ▸ (Ext.refl _ _).push _ (Nat.le_refl _)
  have PA : hA.at h1.n = some (.cells [.lit (.bool o.ex), .lit (.bool o.up), .lit (.int .i64 o.weight), .lit (.int .i64 o.boot), .lit (.int .i64 o.upFrom), .lit (.int .i64 o.upThru)] 42) := hhA ▸ at_push_n _ _
  have LA := ld_at (T := tabOf Tryd.prog NT0) PA
  have la := at_lt PA
  have PC := (EA.2 _ lp).trans hp
  have LC := ld_at (T := tabOf Tryd.prog NT0) PC
  have lc := at_lt PC
  rw [← hhA]
  clear hhA
  rw [WB_regionD [0, 1, 2, 3, 4, 5, 6, 7, 8, 9, 10, 11, 13, 14, 15, 16, 17, 18, 22, 23, 12, 19, 20, 21, 24, 25, 26] 1412006963573700906660700069524118243616869760544256360968249721346466011565351973626593501215177518672908580619239046012223972200766817852166722705780488590525571064120266307589064219363529374100029332153996355833954304 (by kernel_rfl)]
  cases hex : o.ex with
  | false =>
    repeat (first | ((with_reducible refine WDM_cons ?_; simp only [dw1]; try simp only [dw2, Nat.reduceAdd, Nat.reduceMul, Nat.reduceShiftRight, Nat.reduceMod, Nat.reduceEqDiff]); simp only [core, Nat.reduceAdd, Nat.reduceSub, Nat.reduceMul, Nat.reduceLT, Nat.reduceEqDiff, reduceCtorEq, Nat.reduceLeDiff, Int.reduceLE, Int.reduceLT, Int.reduceToNat, cored, LA, la, hex]) | simp only [core, Nat.reduceAdd, Nat.reduceSub, Nat.reduceMul, Nat.reduceLT, Nat.reduceEqDiff, reduceCtorEq, Nat.reduceLeDiff, Int.reduceLE, Int.reduceLT, Int.reduceToNat, cored, LA, la, hex])
    exact ⟨EA, by rw [hres]; unfold mayO; rw [hex]; rfl⟩
  | true =>
  cases hup : o.up with
  | false =>
    repeat (first | ((with_reducible refine WDM_cons ?_; simp only [dw1]; try simp only [dw2, Nat.reduceAdd, Nat.reduceMul, Nat.reduceShiftRight, Nat.reduceMod, Nat.reduceEqDiff]); simp only [core, Nat.reduceAdd, Nat.reduceSub, Nat.reduceMul, Nat.reduceLT, Nat.reduceEqDiff, reduceCtorEq, Nat.reduceLeDiff, Int.reduceLE, Int.reduceLT, Int.reduceToNat, cored, LA, la, hex, hup]) | simp only [core, Nat.reduceAdd, Nat.reduceSub, Nat.reduceMul, Nat.reduceLT, Nat.reduceEqDiff, reduceCtorEq, Nat.reduceLeDiff, Int.reduceLE, Int.reduceLT, Int.reduceToNat, cored, LA, la, hex, hup])
    exact ⟨EA, by rw [hres]; unfold mayO; rw [hex, hup]; rfl⟩
  | true =>
  by_cases hwt : 0 < o.weight
  · repeat (first | ((with_reducible refine WDM_cons ?_; simp only [dw1]; try simp only [dw2, Nat.reduceAdd, Nat.reduceMul, Nat.reduceShiftRight, Nat.reduceMod, Nat.reduceEqDiff]); simp only [core, Nat.reduceAdd, Nat.reduceSub, Nat.reduceMul, Nat.reduceLT, Nat.reduceEqDiff, reduceCtorEq, Nat.reduceLeDiff, Int.reduceLE, Int.reduceLT, Int.reduceToNat, cored, LA, la, LC, lc, hex, hup, hwt]) | simp only [core, Nat.reduceAdd, Nat.reduceSub, Nat.reduceMul, Nat.reduceLT, Nat.reduceEqDiff, reduceCtorEq, Nat.reduceLeDiff, Int.reduceLE, Int.reduceLT, Int.reduceToNat, cored, LA, la, LC, lc, hex, hup, hwt])
    refine new_x.mono ?_
    rintro _ h2 ⟨q, rfl, e2⟩
    have E2 := EA.step e2
    have P2 := (e2.2 _ la).trans PA
    have L2 := ld_at (T := tabOf Tryd.prog NT0) P2
    have l2 := at_lt P2
    have C2 := (e2.2 _ lc).trans PC
    have LC2 := ld_at (T := tabOf Tryd.prog NT0) C2
    have lc2 := at_lt C2
    have h65 : ¬ (65536 : Int) = 0 := by decide
    repeat (first | ((with_reducible refine WDM_cons ?_; simp only [dw1]; try simp only [dw2, Nat.reduceAdd, Nat.reduceMul, Nat.reduceShiftRight, Nat.reduceMod, Nat.reduceEqDiff]); simp only [core, Nat.reduceAdd, Nat.reduceSub, Nat.reduceMul, Nat.reduceLT, Nat.reduceEqDiff, reduceCtorEq, Nat.reduceLeDiff, Int.reduceLE, Int.reduceLT, Int.reduceToNat, cored, L2, l2, LC2, lc2, hex, hup, hwt, h65]) | simp only [core, Nat.reduceAdd, Nat.reduceSub, Nat.reduceMul, Nat.reduceLT, Nat.reduceEqDiff, reduceCtorEq, Nat.reduceLeDiff, Int.reduceLE, Int.reduceLT, Int.reduceToNat, cored, L2, l2, LC2, lc2, hex, hup, hwt, h65])
    refine hash2_c ?_
    repeat (first | ((with_reducible refine WDM_cons ?_; simp only [dw1]; try simp only [dw2, Nat.reduceAdd, Nat.reduceMul, Nat.reduceShiftRight, Nat.reduceMod, Nat.reduceEqDiff]); simp only [core, Nat.reduceAdd, Nat.reduceSub, Nat.reduceMul, Nat.reduceLT, Nat.reduceEqDiff, reduceCtorEq, Nat.reduceLeDiff, Int.reduceLE, Int.reduceLT, Int.reduceToNat, cored, L2, l2, LC2, lc2, hex, hup, hwt, h65]) | simp only [core, Nat.reduceAdd, Nat.reduceSub, Nat.reduceMul, Nat.reduceLT, Nat.reduceEqDiff, reduceCtorEq, Nat.reduceLeDiff, Int.reduceLE, Int.reduceLT, Int.reduceToNat, cored, L2, l2, LC2, lc2, hex, hup, hwt, h65])
    refine ⟨E2, ?_⟩
    rw [hres]; unfold mayO; rw [hex, hup, decide_eq_true hwt]; simp
  · repeat (first | ((with_reducible refine WDM_cons ?_; simp only [dw1]; try simp only [dw2, Nat.reduceAdd, Nat.reduceMul, Nat.reduceShiftRight, Nat.reduceMod, Nat.reduceEqDiff]); simp only [core, Nat.reduceAdd, Nat.reduceSub, Nat.reduceMul, Nat.reduceLT, Nat.reduceEqDiff, reduceCtorEq, Nat.reduceLeDiff, Int.reduceLE, Int.reduceLT, Int.reduceToNat, cored, LA, la, hex, hup, hwt]) | simp only [core, Nat.reduceAdd, Nat.reduceSub, Nat.reduceMul, Nat.reduceLT, Nat.reduceEqDiff, reduceCtorEq, Nat.reduceLeDiff, Int.reduceLE, Int.reduceLT, Int.reduceToNat, cored, LA, la, hex, hup, hwt])
    exact ⟨EA, by rw [hres]; unfold mayO; rw [hex, hup, decide_eq_false hwt]; rfl⟩
end Go.Proofs.YtkgbeihcepociaaDoor.Ex
end

section

set_option linter.unusedSimpArgs false
set_option linter.unusedVariables false
set_option maxRecDepth 10000
set_option maxHeartbeats 4000000
namespace Go.Proofs.YtkgbeihcepociaaDoor.Ex
open Go
/-- Is a bucket the one that is had alone? -/
def hitF (m : MapD) (at0 a : Int) (hv : Bool) : Bool := !hv && decide (0 < m.leaf) && ((bucketG m a).kind == m.leaf) && (a != at0)
/-- The way down: the item, and the bucket. -/
def wayF (m : MapD) (at0 x r : Int) (ds : List Int) : Nat → Int → Int → Bool → Option (Int × Int)
  | 0, _, _, _ => none
  | n + 1, a, dm, hv => if 0 ≤ a then some (a, if hv then dm else a) else
    if hitF m at0 a hv && ds.contains a then none else
    match chooseF (bucketG m a).items (bucketG m a).weights x r with
    | none => none
    | some i => wayF m at0 x r ds n ((bucketG m a).items.getD i 0) (if hitF m at0 a hv then a else dm) (hv || hitF m at0 a hv)
def tryC (m : MapD) (at0 x r : Int) (os ds : List Int) : Int × Int × Bool := match wayF m at0 x r ds 4 at0 0 false with
  | none => (0, 0, false)
  | some (o, d) => (o, d, mayF m o x && !os.contains o)
def tryV (y : Int × Int × Bool) : AV := .tup [.lit (.int .i64 y.1), .lit (.int .i64 y.2.1), .lit (.bool y.2.2)]
theorem tryC_x {F G : Nat → Prop} {H : AH} {m : MapD} {vo vp vb vs vq : AV} {x : Int} {os ds : List Int} {p : Nat} (at0 r : Int) (hm : MpAt F H m vo vp vb) (hok : OkM m) (hlo : Sm 40 m.osds) (hg : goodF m = true)
    (hp : H.at p = some (.cells (chC m vo vp vb x vs vq) 52)) (hs : IsSl RInt G H vs os) (hq : IsSl RInt G H vq ds) (hsl : os.length ≤ 1000) (hql : ds.length ≤ 1000) (ha : kindF m at0 ≤ 3) :
    WC Tryd.prog (tabOf Tryd.prog NT0) S0 39 [.ptr p 0, .lit (.int .i64 at0), .lit (.int .i64 r)] H fun v h' => Ext H.n H h' ∧ v = tryV (tryC m at0 x r os ds) := by
  refine WC_fn Tryd.func39 rfl rfl ?_
  obtain ⟨hl, hbs, hit⟩ := id hok
  have o1 := hm.o.one
  have o2 := hm.p.one
  have o3 := hm.b.one
  have q1 := hq.isSl
  have q2 := hq.lenD
  unfold chC at hp
  have lp := at_lt hp
  simp only [core, Nat.reduceAdd, Nat.reduceSub, Nat.reduceMul, Nat.reduceLT, Nat.reduceEqDiff, reduceCtorEq, Nat.reduceLeDiff, Int.reduceLE, Int.reduceLT, Int.reduceToNat, Tryd.ntmps39]
  refine WB_ind (fun (n : Nat) t h => ∃ a dm hv, Ext H.n H h ∧ 1 ≤ n ∧ kindF m a < (n : Int) ∧ wayF m at0 x r ds n a dm hv = wayF m at0 x r ds 4 at0 0 false ∧ t.n = 88 ∧ t.get 0 = .ptr p 0 ∧ t.get 1 = .lit (.int .i64 at0) ∧ t.get 2 = .lit (.int .i64 r) ∧ t.get 9 = .lit (.int .i64 a) ∧ t.get 10 = .lit (.int .i64 dm) ∧ t.get 11 = .lit (.bool hv)) (fun n => n) ?_ 4 _ _ ?_
  · rintro n t h ⟨a, dm, hv, E1, hn1, hkd, hD, hn, g0, g1, g2, g9, g10, g11⟩ ih
    obtain ⟨n, rfl⟩ : ∃ n', n = n' + 1 := ⟨n - 1, by omega⟩
    rw [wayF] at hD
    have P1 := (E1.2 _ lp).trans hp
    have LP1 := ld_at (T := tabOf Tryd.prog NT0) P1
    have l1 := at_lt P1
    by_cases h0 : 0 ≤ a
    · have h0' : (a < 0) = False := by simp only [eq_iff_iff, iff_false]; omega
      rw [if_pos h0] at hD
      obtain ⟨k, rfl⟩ : ∃ k : Nat, a = (k : Int) := ⟨a.toNat, by omega⟩
      have hsE := hs.ext E1 (Nat.le_refl _)
      have hmE := hm.ext E1 (Nat.le_refl _)
      have hT : tryC m at0 x r os ds = ((k : Int), (if hv then dm else (k : Int)), mayF m k x && !os.contains (k : Int)) := by
        unfold tryC
        rw [← hD]
      cases hv with
      | true =>
        simp only [core, Nat.reduceAdd, Nat.reduceSub, Nat.reduceMul, Nat.reduceLT, Nat.reduceEqDiff, reduceCtorEq, Nat.reduceLeDiff, Int.reduceLE, Int.reduceLT, Int.reduceToNat, hn, g0, g1, g2, g9, g10, g11, h0']
        refine (takes_x (k := k) hmE hlo P1 hsE hsl).mono ?_
        rintro _ h2 ⟨e2, rfl⟩
        simp only [core, Nat.reduceAdd, Nat.reduceSub, Nat.reduceMul, Nat.reduceLT, Nat.reduceEqDiff, reduceCtorEq, Nat.reduceLeDiff, Int.reduceLE, Int.reduceLT, Int.reduceToNat, hn, g0, g1, g2, g9, g10, g11]
        exact ⟨E1.step e2, by rw [hT]; rfl⟩
      | false =>
        simp only [core, Nat.reduceAdd, Nat.reduceSub, Nat.reduceMul, Nat.reduceLT, Nat.reduceEqDiff, reduceCtorEq, Nat.reduceLeDiff, Int.reduceLE, Int.reduceLT, Int.reduceToNat, hn, g0, g1, g2, g9, g10, g11, h0']
        refine (takes_x (k := k) hmE hlo P1 hsE hsl).mono ?_
        rintro _ h2 ⟨e2, rfl⟩
        simp only [core, Nat.reduceAdd, Nat.reduceSub, Nat.reduceMul, Nat.reduceLT, Nat.reduceEqDiff, reduceCtorEq, Nat.reduceLeDiff, Int.reduceLE, Int.reduceLT, Int.reduceToNat, hn, g0, g1, g2, g9, g10, g11]
        exact ⟨E1.step e2, by rw [hT]; rfl⟩
    · have h0' : (a < 0) = True := by simp only [eq_iff_iff, iff_true]; omega
      rw [if_neg h0] at hD
      simp only [core, Nat.reduceAdd, Nat.reduceSub, Nat.reduceMul, Nat.reduceLT, Nat.reduceEqDiff, reduceCtorEq, Nat.reduceLeDiff, Int.reduceLE, Int.reduceLT, Int.reduceToNat, hn, g0, g1, g2, g9, g10, g11, h0', LP1, l1, chC]
      refine (bucket_x a (hm.ext E1 (Nat.le_refl _)) hl hbs).mono ?_
      rintro _ h2 ⟨e2, va, vw, rfl, b1, b2⟩
      have o4 := b1.one
      have o5 := b2.one
      have E2 := E1.step e2
      simp only [core, Nat.reduceAdd, Nat.reduceSub, Nat.reduceMul, Nat.reduceLT, Nat.reduceEqDiff, reduceCtorEq, Nat.reduceLeDiff, Int.reduceLE, Int.reduceLT, Int.reduceToNat, hn, g0, g1, g2, g9, g10, g11, bktV, o4, o5]
      obtain ⟨h3, hh3⟩ : ∃ h3, h3 = h2.push (.cells [.lit (.int .i64 (bucketG m a).id), .lit (.int .i64 (bucketG m a).kind), va, vw] 47) := ⟨_, rfl⟩
      have e3 : Ext h2.n h2 h3 := hh3 ▸ (Ext.refl _ _).push _ (Nat.le_refl _)
      have B3 : h3.at h2.n = some (.cells [.lit (.int .i64 (bucketG m a).id), .lit (.int .i64 (bucketG m a).kind), va, vw] 47) := hh3 ▸ at_push_n _ _
      have LB3 := ld_at (T := tabOf Tryd.prog NT0) B3
      have lb3 := at_lt B3
      rw [← hh3]
      clear hh3
      have E3 := E2.step e3
      have P3 := (E3.2 _ lp).trans hp
      have LP3 := ld_at (T := tabOf Tryd.prog NT0) P3
      have l3 := at_lt P3
      have c3 := b1.ext e3 (Nat.le_refl _)
      have c4 := b2.ext e3 (Nat.le_refl _)
      refine WB_cut (fun t h' => h' = h3 ∧ t.n = 88 ∧ t.get 0 = .ptr p 0 ∧ t.get 1 = .lit (.int .i64 at0) ∧ t.get 2 = .lit (.int .i64 r) ∧ t.get 9 = .lit (.int .i64 a) ∧ t.get 10 = .lit (.int .i64 dm) ∧ t.get 11 = .lit (.bool hv) ∧ t.get 12 = .ptr h2.n 0 ∧ t.get 52 = .lit (.bool (hitF m at0 a hv))) (fun k' K' hk => ?_) ?_
      · rw [WB_regionD [0, 1, 2, 3, 4, 5, 6, 7, 8, 9, 10, 11, 12, 13, 14, 15, 16, 17, 18, 19, 20, 21, 22, 23, 24] 69617315882342504562567840841288315750640570987166138686464120633385435005909810912804776464491386479444954425742356428750360449267437331138830941716010092468283243943582678247324426174464 (by kernel_rfl)]
        cases hv with
        | true =>
          repeat (first | ((with_reducible refine WDM_cons ?_; simp only [dw1]; try simp only [dw2, Nat.reduceAdd, Nat.reduceMul, Nat.reduceShiftRight, Nat.reduceMod, Nat.reduceEqDiff]); simp only [core, Nat.reduceAdd, Nat.reduceSub, Nat.reduceMul, Nat.reduceLT, Nat.reduceEqDiff, reduceCtorEq, Nat.reduceLeDiff, Int.reduceLE, Int.reduceLT, Int.reduceToNat, cored, hn, g0, g1, g2, g9, g10, g11, LP3, l3, LB3, lb3]) | simp only [core, Nat.reduceAdd, Nat.reduceSub, Nat.reduceMul, Nat.reduceLT, Nat.reduceEqDiff, reduceCtorEq, Nat.reduceLeDiff, Int.reduceLE, Int.reduceLT, Int.reduceToNat, cored, hn, g0, g1, g2, g9, g10, g11, LP3, l3, LB3, lb3])
          refine hk _ _ ⟨rfl, ?_⟩
          simp only [core, Nat.reduceAdd, Nat.reduceSub, Nat.reduceMul, Nat.reduceLT, Nat.reduceEqDiff, reduceCtorEq, Nat.reduceLeDiff, Int.reduceLE, Int.reduceLT, Int.reduceToNat, hn, g0, g1, g2, g9, g10, g11]
          rfl
        | false =>
          by_cases c1 : 0 < m.leaf
          · cases c2 : ((bucketG m a).kind == m.leaf) with
            | false =>
              repeat (first | ((with_reducible refine WDM_cons ?_; simp only [dw1]; try simp only [dw2, Nat.reduceAdd, Nat.reduceMul, Nat.reduceShiftRight, Nat.reduceMod, Nat.reduceEqDiff]); simp only [core, Nat.reduceAdd, Nat.reduceSub, Nat.reduceMul, Nat.reduceLT, Nat.reduceEqDiff, reduceCtorEq, Nat.reduceLeDiff, Int.reduceLE, Int.reduceLT, Int.reduceToNat, cored, hn, g0, g1, g2, g9, g10, g11, LP3, l3, LB3, lb3, c1, c2]) | simp only [core, Nat.reduceAdd, Nat.reduceSub, Nat.reduceMul, Nat.reduceLT, Nat.reduceEqDiff, reduceCtorEq, Nat.reduceLeDiff, Int.reduceLE, Int.reduceLT, Int.reduceToNat, cored, hn, g0, g1, g2, g9, g10, g11, LP3, l3, LB3, lb3, c1, c2])
              refine hk _ _ ⟨rfl, ?_⟩
              simp only [core, Nat.reduceAdd, Nat.reduceSub, Nat.reduceMul, Nat.reduceLT, Nat.reduceEqDiff, reduceCtorEq, Nat.reduceLeDiff, Int.reduceLE, Int.reduceLT, Int.reduceToNat, hn, g0, g1, g2, g9, g10, g11]
              unfold hitF
              rw [c2, Bool.and_false]
              rfl
            | true =>
              cases c3 : (a != at0) with
              | false =>
                repeat (first | ((with_reducible refine WDM_cons ?_; simp only [dw1]; try simp only [dw2, Nat.reduceAdd, Nat.reduceMul, Nat.reduceShiftRight, Nat.reduceMod, Nat.reduceEqDiff]); simp only [core, Nat.reduceAdd, Nat.reduceSub, Nat.reduceMul, Nat.reduceLT, Nat.reduceEqDiff, reduceCtorEq, Nat.reduceLeDiff, Int.reduceLE, Int.reduceLT, Int.reduceToNat, cored, hn, g0, g1, g2, g9, g10, g11, LP3, l3, LB3, lb3, c1, c2, c3]) | simp only [core, Nat.reduceAdd, Nat.reduceSub, Nat.reduceMul, Nat.reduceLT, Nat.reduceEqDiff, reduceCtorEq, Nat.reduceLeDiff, Int.reduceLE, Int.reduceLT, Int.reduceToNat, cored, hn, g0, g1, g2, g9, g10, g11, LP3, l3, LB3, lb3, c1, c2, c3])
                refine hk _ _ ⟨rfl, ?_⟩
                simp only [core, Nat.reduceAdd, Nat.reduceSub, Nat.reduceMul, Nat.reduceLT, Nat.reduceEqDiff, reduceCtorEq, Nat.reduceLeDiff, Int.reduceLE, Int.reduceLT, Int.reduceToNat, hn, g0, g1, g2, g9, g10, g11]
                unfold hitF
                rw [c3, Bool.and_false]
              | true =>
                repeat (first | ((with_reducible refine WDM_cons ?_; simp only [dw1]; try simp only [dw2, Nat.reduceAdd, Nat.reduceMul, Nat.reduceShiftRight, Nat.reduceMod, Nat.reduceEqDiff]); simp only [core, Nat.reduceAdd, Nat.reduceSub, Nat.reduceMul, Nat.reduceLT, Nat.reduceEqDiff, reduceCtorEq, Nat.reduceLeDiff, Int.reduceLE, Int.reduceLT, Int.reduceToNat, cored, hn, g0, g1, g2, g9, g10, g11, LP3, l3, LB3, lb3, c1, c2, c3]) | simp only [core, Nat.reduceAdd, Nat.reduceSub, Nat.reduceMul, Nat.reduceLT, Nat.reduceEqDiff, reduceCtorEq, Nat.reduceLeDiff, Int.reduceLE, Int.reduceLT, Int.reduceToNat, cored, hn, g0, g1, g2, g9, g10, g11, LP3, l3, LB3, lb3, c1, c2, c3])
                refine hk _ _ ⟨rfl, ?_⟩
                simp only [core, Nat.reduceAdd, Nat.reduceSub, Nat.reduceMul, Nat.reduceLT, Nat.reduceEqDiff, reduceCtorEq, Nat.reduceLeDiff, Int.reduceLE, Int.reduceLT, Int.reduceToNat, hn, g0, g1, g2, g9, g10, g11]
                unfold hitF
                rw [c2, c3, decide_eq_true c1]
                rfl
          · repeat (first | ((with_reducible refine WDM_cons ?_; simp only [dw1]; try simp only [dw2, Nat.reduceAdd, Nat.reduceMul, Nat.reduceShiftRight, Nat.reduceMod, Nat.reduceEqDiff]); simp only [core, Nat.reduceAdd, Nat.reduceSub, Nat.reduceMul, Nat.reduceLT, Nat.reduceEqDiff, reduceCtorEq, Nat.reduceLeDiff, Int.reduceLE, Int.reduceLT, Int.reduceToNat, cored, hn, g0, g1, g2, g9, g10, g11, LP3, l3, LB3, lb3, c1]) | simp only [core, Nat.reduceAdd, Nat.reduceSub, Nat.reduceMul, Nat.reduceLT, Nat.reduceEqDiff, reduceCtorEq, Nat.reduceLeDiff, Int.reduceLE, Int.reduceLT, Int.reduceToNat, cored, hn, g0, g1, g2, g9, g10, g11, LP3, l3, LB3, lb3, c1])
            refine hk _ _ ⟨rfl, ?_⟩
            simp only [core, Nat.reduceAdd, Nat.reduceSub, Nat.reduceMul, Nat.reduceLT, Nat.reduceEqDiff, reduceCtorEq, Nat.reduceLeDiff, Int.reduceLE, Int.reduceLT, Int.reduceToNat, hn, g0, g1, g2, g9, g10, g11]
            unfold hitF
            rw [decide_eq_false c1]
            rfl
      rintro t h' ⟨rfl, hn, g0, g1, g2, g9, g10, g11, g12, g52⟩
      have hq3 := hq.ext E3 (Nat.le_refl _)
      obtain ⟨ht, hht⟩ : ∃ ht, ht = hitF m at0 a hv := ⟨_, rfl⟩
      rw [← hht] at g52 hD
      by_cases hret : (ht && ds.contains a) = true
      · rw [if_pos hret] at hD
        have hT : tryC m at0 x r os ds = (0, 0, false) := by
          unfold tryC
          rw [← hD]
        simp only [Bool.and_eq_true] at hret
        obtain ⟨rfl, hca⟩ := hret
        simp only [core, Nat.reduceAdd, Nat.reduceSub, Nat.reduceMul, Nat.reduceLT, Nat.reduceEqDiff, reduceCtorEq, Nat.reduceLeDiff, Int.reduceLE, Int.reduceLT, Int.reduceToNat, hn, g0, g1, g2, g9, g10, g11, g12, g52, LP3, l3]
        refine (contains_x a hq3 (by omega)).mono ?_
        rintro _ h4 ⟨rfl, rfl⟩
        simp only [core, Nat.reduceAdd, Nat.reduceSub, Nat.reduceMul, Nat.reduceLT, Nat.reduceEqDiff, reduceCtorEq, Nat.reduceLeDiff, Int.reduceLE, Int.reduceLT, Int.reduceToNat, hn, g0, g1, g2, g9, g10, g11, g12, g52, hca]
        exact ⟨E3, by rw [hT]; rfl⟩
      rw [if_neg hret] at hD
      refine WB_cut (fun t h4 => h4 = h' ∧ t.n = 88 ∧ t.get 0 = .ptr p 0 ∧ t.get 1 = .lit (.int .i64 at0) ∧ t.get 2 = .lit (.int .i64 r) ∧ t.get 9 = .lit (.int .i64 a) ∧ t.get 10 = .lit (.int .i64 (if ht then a else dm)) ∧ t.get 11 = .lit (.bool (hv || ht)) ∧ t.get 12 = .ptr h2.n 0) (fun k' K' hk => ?_) ?_
      · cases ht with
        | false =>
          simp only [core, Nat.reduceAdd, Nat.reduceSub, Nat.reduceMul, Nat.reduceLT, Nat.reduceEqDiff, reduceCtorEq, Nat.reduceLeDiff, Int.reduceLE, Int.reduceLT, Int.reduceToNat, hn, g0, g1, g2, g9, g10, g11, g12, g52]
          refine hk _ _ ⟨rfl, ?_⟩
          simp only [core, Nat.reduceAdd, Nat.reduceSub, Nat.reduceMul, Nat.reduceLT, Nat.reduceEqDiff, reduceCtorEq, Nat.reduceLeDiff, Int.reduceLE, Int.reduceLT, Int.reduceToNat, hn, g0, g1, g2, g9, g10, g11, g12, g52, Bool.or_false]
        | true =>
          have hca : ds.contains a = false := by
            cases hcc : ds.contains a with
            | false => rfl
            | true => exact absurd (by rw [hcc]; rfl) hret
          simp only [core, Nat.reduceAdd, Nat.reduceSub, Nat.reduceMul, Nat.reduceLT, Nat.reduceEqDiff, reduceCtorEq, Nat.reduceLeDiff, Int.reduceLE, Int.reduceLT, Int.reduceToNat, hn, g0, g1, g2, g9, g10, g11, g12, g52, LP3, l3]
          refine (contains_x a hq3 (by omega)).mono ?_
          rintro _ h4 ⟨rfl, rfl⟩
          simp only [core, Nat.reduceAdd, Nat.reduceSub, Nat.reduceMul, Nat.reduceLT, Nat.reduceEqDiff, reduceCtorEq, Nat.reduceLeDiff, Int.reduceLE, Int.reduceLT, Int.reduceToNat, hn, g0, g1, g2, g9, g10, g11, g12, g52, hca]
          refine hk _ _ ⟨rfl, ?_⟩
          simp only [core, Nat.reduceAdd, Nat.reduceSub, Nat.reduceMul, Nat.reduceLT, Nat.reduceEqDiff, reduceCtorEq, Nat.reduceLeDiff, Int.reduceLE, Int.reduceLT, Int.reduceToNat, hn, g0, g1, g2, g9, g10, g11, g12, g52, Bool.or_true]
      rintro t h4 ⟨rfl, hn, g0, g1, g2, g9, g10, g11, g12⟩
      simp only [core, Nat.reduceAdd, Nat.reduceSub, Nat.reduceMul, Nat.reduceLT, Nat.reduceEqDiff, reduceCtorEq, Nat.reduceLeDiff, Int.reduceLE, Int.reduceLT, Int.reduceToNat, hn, g0, g1, g2, g9, g10, g11, g12]
      have hG : ∀ b, bucketF m a = some b → bucketG m a = b := fun b hb => by unfold bucketG; rw [hb]; rfl
      have hGl : (bucketG m a).items.length * 8 ≤ 140737488351232 := by
        cases hb : bucketF m a with
        | none => unfold bucketG; rw [hb]; decide
        | some b => rw [hG b hb]; exact (hbs b (List.mem_of_find?_eq_some hb)).1
      rw [WB_regionD [0, 1, 2, 3, 4, 5, 6, 7, 8, 9, 10, 11, 12, 13, 14] 26958506803583283964102506241650125051416736049585717655372279349248 (by kernel_rfl)]
      have z1 := c3.isSl
      have z2 := c3.lenD
      have z3 := c4.isSl
      repeat ((with_reducible refine WDM_cons ?_; simp only [dw1]; try simp only [dw2, Nat.reduceAdd, Nat.reduceMul, Nat.reduceShiftRight, Nat.reduceMod, Nat.reduceEqDiff]); simp only [core, Nat.reduceAdd, Nat.reduceSub, Nat.reduceMul, Nat.reduceLT, Nat.reduceEqDiff, reduceCtorEq, Nat.reduceLeDiff, Int.reduceLE, Int.reduceLT, Int.reduceToNat, cored, hn, g0, g1, g2, g9, g10, g11, g12, LP3, l3, LB3, lb3, z1, z2, z3])
      refine (choose_x x r c3 c4 (by omega)).mono ?_
      rintro _ h5 ⟨e5, rfl⟩
      have E5 := E3.step e5
      have B5 := (e5.2 _ lb3).trans B3
      have LB5 := ld_at (T := tabOf Tryd.prog NT0) B5
      have lb5 := at_lt B5
      have c5 := c3.ext e5 (Nat.le_refl _)
      cases hch : chooseF (bucketG m a).items (bucketG m a).weights x r with
      | none =>
        rw [hch] at hD
        have hT : tryC m at0 x r os ds = (0, 0, false) := by
          unfold tryC
          rw [← hD]
        repeat ((with_reducible refine WDM_cons ?_; simp only [dw1]; try simp only [dw2, Nat.reduceAdd, Nat.reduceMul, Nat.reduceShiftRight, Nat.reduceMod, Nat.reduceEqDiff]); simp only [core, Nat.reduceAdd, Nat.reduceSub, Nat.reduceMul, Nat.reduceLT, Nat.reduceEqDiff, reduceCtorEq, Nat.reduceLeDiff, Int.reduceLE, Int.reduceLT, Int.reduceToNat, cored, hn, g0, g1, g2, g9, g10, g11, g12, chooseV, pairV])
        exact ⟨E5, by rw [hT]; rfl⟩
      | some i =>
        obtain ⟨hi, -⟩ := chooseF_lt hch
        rw [hch] at hD
        obtain ⟨b, hb⟩ : ∃ b, bucketF m a = some b := by
          cases hb : bucketF m a with
          | none =>
            unfold bucketG at hi
            rw [hb] at hi
            exact absurd hi (Nat.not_lt_zero _)
          | some b => exact ⟨b, rfl⟩
        have hGb := hG b hb
        obtain ⟨u1, u2, u3, u4, u5, u6, u7, u8⟩ := good_bkt hg hb
        have hkb := kind_bkt (by omega : a < 0) hb
        obtain ⟨y1, y2⟩ := u7 i (by rw [← hGb]; exact hi)
        have hlda := c5.int (T := tabOf Tryd.prog NT0) (e := 3) (by kernel_rfl) (by kernel_rfl) hi
        repeat ((with_reducible refine WDM_cons ?_; simp only [dw1]; try simp only [dw2, Nat.reduceAdd, Nat.reduceMul, Nat.reduceShiftRight, Nat.reduceMod, Nat.reduceEqDiff]); simp only [core, Nat.reduceAdd, Nat.reduceSub, Nat.reduceMul, Nat.reduceLT, Nat.reduceEqDiff, reduceCtorEq, Nat.reduceLeDiff, Int.reduceLE, Int.reduceLT, Int.reduceToNat, cored, hn, g0, g1, g2, g9, g10, g11, g12, chooseV, pairV, LB5, lb5, z1, z2, hi, hlda])
        refine ih n _ _ ⟨_, _, _, E5, ?_, ?_, hD, ?_⟩ (by omega)
        · rw [hGb] at *; omega
        · rw [hGb] at *; omega
        · simp only [core, Nat.reduceAdd, Nat.reduceSub, Nat.reduceMul, Nat.reduceLT, Nat.reduceEqDiff, reduceCtorEq, Nat.reduceLeDiff, Int.reduceLE, Int.reduceLT, Int.reduceToNat, hn, g0, g1, g2, g9, g10, g11, g12]
  · refine ⟨at0, 0, false, Ext.refl _ _, by omega, by omega, rfl, ?_⟩
    simp only [core, Nat.reduceAdd, Nat.reduceSub, Nat.reduceMul, Nat.reduceLT, Nat.reduceEqDiff, reduceCtorEq, Nat.reduceLeDiff, Int.reduceLE, Int.reduceLT, Int.reduceToNat]
end Go.Proofs.YtkgbeihcepociaaDoor.Ex
end

section

set_option linter.unusedSimpArgs false
set_option linter.unusedVariables false
set_option maxRecDepth 10000
set_option maxHeartbeats 4000000
namespace Go.Proofs.YtkgbeihcepociaaDoor.Ex
open Go
end Go.Proofs.YtkgbeihcepociaaDoor.Ex
end

section

set_option linter.unusedSimpArgs false
set_option linter.unusedVariables false
namespace Go.Proofs.YtkgbeihcepociaaDoor.Ex
open Go
theorem kind_neg {m : MapD} (hg : goodF m = true) {w : Int} (hw : w < 0) (h0 : 0 ≤ kindF m w) : ∃ b, bucketF m w = some b ∧ kindF m w = b.kind ∧ 1 ≤ b.kind := by
  cases hb : bucketF m w with
  | none =>
    unfold kindF at h0
    rw [if_neg (by omega), hb] at h0
    exact absurd h0 (by simp)
  | some b => exact ⟨b, rfl, kind_bkt hw hb, (good_bkt hg hb).2.2.1⟩
theorem kind_none {m : MapD} (hg : goodF m = true) {w : Int} (hw : w < 0) (h0 : kindF m w ≤ 0) : bucketF m w = none := by
  cases hb : bucketF m w with
  | none => rfl
  | some b =>
    have := kind_bkt hw hb
    have := (good_bkt hg hb).2.2.1
    omega
theorem choose_none {m : MapD} {a x r : Int} (hb : bucketF m a = none) : chooseF (bucketG m a).items (bucketG m a).weights x r = none := by
  have hG : bucketG m a = bkt0 := by unfold bucketG; rw [hb]; rfl
  rw [hG]
  cases hc : chooseF bkt0.items bkt0.weights x r with
  | none => rfl
  | some i => exact absurd (chooseF_lt hc).1 (Nat.not_lt_zero _)
theorem item_kind {m : MapD} (hg : goodF m = true) {a x r : Int} {b : BktD} {i : Nat} (hb : bucketF m a = some b) (hc : chooseF b.items b.weights x r = some i) : 0 ≤ kindF m (b.items.getD i 0) ∧ kindF m (b.items.getD i 0) < b.kind :=
  (good_bkt hg hb).2.2.2.2.2.2.1 i (chooseF_lt hc).1
theorem hit_true {m : MapD} {at0 a : Int} : hitF m at0 a true = false := by unfold hitF; simp
theorem down_none {m : MapD} {k x r a : Int} (hb : bucketF m a = none) : ∀ (n : Nat), downF m k x r n a = none
  | 0 => rfl
  | n + 1 => by rw [downF, hb]
theorem down_fuel {m : MapD} (hg : goodF m = true) {k x r : Int} : ∀ (n n' : Nat) (a : Int), a < 0 → kindF m a ≤ (n : Int) → kindF m a ≤ (n' : Int) → downF m k x r n a = downF m k x r n' a
  | 0, n', a, ha, h1, _ => by rw [down_none (kind_none hg ha (by simpa using h1)), down_none (kind_none hg ha (by simpa using h1))]
  | n + 1, 0, a, ha, _, h2 => by rw [down_none (kind_none hg ha (by simpa using h2)), down_none (kind_none hg ha (by simpa using h2))]
  | n + 1, n' + 1, a, ha, h1, h2 => by
    cases hb : bucketF m a with
    | none => rw [down_none hb, down_none hb]
    | some b =>
      rw [downF, downF, hb]
      simp only
      cases hc : chooseF b.items b.weights x r with
      | none => rfl
      | some i =>
        simp only
        obtain ⟨q1, q2⟩ := item_kind hg hb hc
        have hk := kind_bkt ha hb
        split
        · rfl
        · rename_i hno
          exact down_fuel hg n n' _ (by omega) (by omega) (by omega)
theorem way_true {m : MapD} (hg : goodF m = true) {at0 x r : Int} {ds : List Int} : ∀ (n : Nat) (a dm : Int), a < 0 → kindF m a ≤ (n : Int) → wayF m at0 x r ds (n + 1) a dm true = (downF m 0 x r n a).map (fun o => (o, dm))
  | 0, a, dm, ha, h1 => by
    have hb := kind_none hg ha (by simpa using h1)
    rw [down_none hb, wayF, if_neg (by omega), hit_true, choose_none hb]
    rfl
  | n + 1, a, dm, ha, h1 => by
    rw [wayF, if_neg (by omega), hit_true]
    cases hb : bucketF m a with
    | none => rw [choose_none hb, down_none hb]; rfl
    | some b =>
      have hG : bucketG m a = b := by unfold bucketG; rw [hb]; rfl
      rw [hG, downF, hb]
      simp only [Bool.false_and, Bool.false_eq_true, if_false, Bool.or_false]
      cases hc : chooseF b.items b.weights x r with
      | none => rfl
      | some i =>
        simp only
        obtain ⟨q1, q2⟩ := item_kind hg hb hc
        have hk := kind_bkt ha hb
        by_cases h0 : 0 ≤ b.items.getD i 0
        · rw [wayF, if_pos h0, if_pos (show 0 ≤ b.items.getD i 0 ∨ kindF m (b.items.getD i 0) = 0 from .inl h0)]
          rfl
        · obtain ⟨b', hb', hk', h1'⟩ := kind_neg hg (by omega) q1
          rw [if_neg (by omega)]
          exact way_true hg n _ dm (by omega) (by omega)
theorem way_false {m : MapD} (hg : goodF m = true) {at0 x r : Int} {ds : List Int} (h3 : kindF m at0 ≤ 3) : ∀ (n : Nat) (a dm : Int), a < 0 → kindF m a ≤ (n : Int) → kindF m a ≤ kindF m at0 → hitF m at0 a false = false →
    wayF m at0 x r ds (n + 1) a dm false = match downF m m.leaf x r n a with
      | none => none
      | some d => if 0 ≤ d then some (d, d) else if ds.contains d then none else (downF m 0 x r 4 d).map (fun o => (o, d))
  | 0, a, dm, ha, h1, _, hh => by
    have hb := kind_none hg ha (by simpa using h1)
    rw [down_none hb, wayF, if_neg (by omega), hh, choose_none hb]
    rfl
  | n + 1, a, dm, ha, h1, h2, hh => by
    rw [wayF, if_neg (by omega), hh]
    cases hb : bucketF m a with
    | none => rw [choose_none hb, down_none hb]; rfl
    | some b =>
      have hG : bucketG m a = b := by unfold bucketG; rw [hb]; rfl
      rw [hG, downF, hb]
      simp only [Bool.false_and, Bool.false_eq_true, if_false, Bool.or_false]
      cases hc : chooseF b.items b.weights x r with
      | none => rfl
      | some i =>
        simp only
        obtain ⟨q1, q2⟩ := item_kind hg hb hc
        have hk := kind_bkt ha hb
        obtain ⟨w, hw⟩ : ∃ w, w = b.items.getD i 0 := ⟨_, rfl⟩
        rw [← hw] at q1 q2 ⊢
        by_cases h0 : 0 ≤ w
        · rw [wayF, if_pos h0, if_pos (show 0 ≤ w ∨ kindF m w = m.leaf from .inl h0)]
          simp only [if_pos h0]
          rfl
        · have hw0 : w < 0 := by omega
          obtain ⟨b', hb', hk', h1'⟩ := kind_neg hg hw0 q1
          have hG' : bucketG m w = b' := by unfold bucketG; rw [hb']; rfl
          by_cases hl : kindF m w = m.leaf
          · have hhit : hitF m at0 w false = true := by
              unfold hitF
              rw [hG']
              have c1 : 0 < m.leaf := by omega
              have c2 : b'.kind = m.leaf := by omega
              have c3 : w ≠ at0 := fun hq => by subst hq; omega
              simp [c1, c2, c3]
            rw [if_pos (.inr hl), wayF, if_neg h0, hhit]
            simp only [Bool.true_and, Bool.or_true, if_true, if_neg h0]
            cases hds : ds.contains w with
            | true => simp only [if_true]
            | false =>
              simp only [Bool.false_eq_true, if_false]
              have ht := way_true hg (at0 := at0) (x := x) (r := r) (ds := ds) n w w hw0 (by omega)
              rw [down_fuel hg 4 n w hw0 (by omega) (by omega), ← ht, wayF, if_neg h0, hit_true]
              simp only [Bool.false_and, Bool.false_eq_true, if_false, Bool.or_false]
          · have hhit : hitF m at0 w false = false := by
              unfold hitF
              rw [hG']
              have c2 : ¬ b'.kind = m.leaf := by omega
              simp [c2]
            rw [if_neg (by omega)]
            exact way_false hg h3 n w dm hw0 (by omega) (by omega) hhit
theorem try_same {m : MapD} (hg : goodF m = true) {at0 x r : Int} {os ds : List Int} (h3 : kindF m at0 ≤ 3) (ha : at0 < 0) (hi : ∀ d ∈ ds, 0 ≤ d → d ∈ os) :
    tryR m x at0 (os, ds) r = if (tryC m at0 x r os ds).2.2 then some ((tryC m at0 x r os ds).1, (tryC m at0 x r os ds).2.1) else none := by
  have hh : hitF m at0 at0 false = false := by unfold hitF; simp
  have hw := way_false hg (x := x) (r := r) (ds := ds) h3 3 at0 0 ha h3 (Int.le_refl _) hh
  unfold tryC tryR
  rw [hw]
  by_cases hk : bucketF m at0 = none
  · rw [down_none hk, down_none hk]; rfl
  rw [down_fuel hg 4 3 at0 ha (by omega) h3]
  cases hd : downF m m.leaf x r 3 at0 with
  | none => rfl
  | some d =>
    simp only
    by_cases hd0 : 0 ≤ d
    · simp only [if_pos hd0]
      cases hc : ds.contains d with
      | true =>
        have : os.contains d = true := List.contains_iff_mem.2 (hi d (List.contains_iff_mem.1 hc) hd0)
        simp only [if_true, this, Bool.not_true, Bool.and_false, Bool.false_eq_true, if_false]
      | false =>
        rw [if_neg (show ¬ d < 0 by omega)]
        simp only [Bool.false_eq_true, if_false]
        cases mayF m d x <;> cases os.contains d <;> rfl
    · simp only [if_neg hd0]
      cases hc : ds.contains d with
      | true => rfl
      | false =>
        rw [if_pos (show d < 0 by omega)]
        simp only [Bool.false_eq_true, if_false]
        cases downF m 0 x r 4 d with
        | none => rfl
        | some o =>
          simp only [Option.map_some]
          cases mayF m o x <;> cases os.contains o <;> rfl
theorem tryR_pos {m : MapD} {x root r o d : Int} {s : List Int × List Int} (h : tryR m x root s r = some (o, d)) (hd : 0 ≤ d) : o = d := by
  unfold tryR at h
  cases h1 : downF m m.leaf x r 4 root with
  | none => rw [h1] at h; cases h
  | some d' =>
    rw [h1] at h
    simp only at h
    split at h
    · cases h
    · split at h
      · cases h
      · rename_i o' ho
        split at h
        · cases h
        · cases h
          rw [if_neg (by omega)] at ho
          exact (Option.some.inj ho).symm
theorem tryR_i64 {F : Nat → Prop} {H : AH} {m : MapD} {vo vp vb : AV} (hm : MpAt F H m vo vp vb) {x root r o d : Int} {s : List Int × List Int} (h : tryR m x root s r = some (o, d)) : I64 o ∧ I64 d := by
  unfold tryR at h
  cases h1 : downF m m.leaf x r 4 root with
  | none => rw [h1] at h; cases h
  | some d' =>
    rw [h1] at h
    simp only at h
    split at h
    · cases h
    · split at h
      · cases h
      · rename_i o' ho
        split at h
        · cases h
        · cases h
          have hd := down_i64 hm _ _ _ h1
          refine ⟨?_, hd⟩
          split at ho
          · exact down_i64 hm _ _ _ ho
          · cases ho; exact hd
theorem firstR_try {m : MapD} {x root : Int} {s : List Int × List Int} {k : Nat} {y : Int × Int} : ∀ n, firstR m x root s k n = some y → ∃ r, tryR m x root s r = some y
  | 0, h => by rw [firstR_zero] at h; cases h
  | n + 1, h => by
    cases hn : firstR m x root s k n with
    | some z => rw [firstR_le hn (n + 1) (by omega)] at h; cases h; exact firstR_try n hn
    | none => rw [firstR_next hn] at h; exact ⟨_, h⟩
theorem copyR_inv {m : MapD} {x root : Int} {s : List Int × List Int} {k : Nat} (hi : ∀ d ∈ s.2, 0 ≤ d → d ∈ s.1) : ∀ d ∈ (copyR m x root s k).2, 0 ≤ d → d ∈ (copyR m x root s k).1 := by
  unfold copyR
  cases h : firstR m x root s k 50 with
  | none => exact hi
  | some y =>
    obtain ⟨o, d⟩ := y
    obtain ⟨r, hr⟩ := firstR_try _ h
    intro d' hd' h0
    simp only [List.mem_append, List.mem_singleton] at hd' ⊢
    rcases hd' with hd' | rfl
    · exact .inl (hi _ hd' h0)
    · exact .inr (tryR_pos hr h0).symm
theorem selN_inv {m : MapD} {x root : Int} : ∀ k, ∀ d ∈ (selN m x root k).2, 0 ≤ d → d ∈ (selN m x root k).1
  | 0 => fun d hd => by cases hd
  | k + 1 => by rw [selN]; exact copyR_inv (selN_inv k)
theorem tryR_may {m : MapD} {x root r o d : Int} {s : List Int × List Int} (h : tryR m x root s r = some (o, d)) : mayF m o x = true ∧ s.1.contains o = false := by
  unfold tryR at h
  cases h1 : downF m m.leaf x r 4 root with
  | none => rw [h1] at h; cases h
  | some d' =>
    rw [h1] at h
    simp only at h
    split at h
    · cases h
    · split at h
      · cases h
      · rename_i o' ho
        split at h
        · cases h
        · rename_i hn
          cases h
          cases hm : mayF m o x with
          | false => rw [hm] at hn; exact absurd rfl hn
          | true =>
            cases hc : s.1.contains o with
            | true => rw [hm, hc] at hn; exact absurd rfl hn
            | false => exact ⟨rfl, rfl⟩
theorem copyR_may {m : MapD} {x root : Int} {s : List Int × List Int} {k : Nat} (hi : (∀ o ∈ s.1, mayF m o x = true) ∧ s.1.Nodup) : (∀ o ∈ (copyR m x root s k).1, mayF m o x = true) ∧ (copyR m x root s k).1.Nodup := by
  unfold copyR
  cases h : firstR m x root s k 50 with
  | none => exact hi
  | some y =>
    obtain ⟨o, d⟩ := y
    obtain ⟨r, hr⟩ := firstR_try _ h
    obtain ⟨h1, h2⟩ := tryR_may hr
    refine ⟨fun o' ho' => ?_, ?_⟩
    · simp only [List.mem_append, List.mem_singleton] at ho'
      rcases ho' with ho' | rfl
      · exact hi.1 _ ho'
      · exact h1
    · rw [List.nodup_append]
      refine ⟨hi.2, by simp, fun a ha b hb => ?_⟩
      simp only [List.mem_singleton] at hb
      subst hb
      intro hab
      subst hab
      rw [List.contains_iff_mem.2 ha] at h2
      cases h2
theorem selN_may {m : MapD} {x root : Int} : ∀ k, (∀ o ∈ (selN m x root k).1, mayF m o x = true) ∧ (selN m x root k).1.Nodup
  | 0 => ⟨fun o ho => (by cases ho), List.nodup_nil⟩
  | k + 1 => by rw [selN]; exact copyR_may (selN_may k)
theorem selectF_may {m : MapD} {x n : Int} : (∀ o ∈ selectF m x n, mayF m o x = true) ∧ (selectF m x n).Nodup := by
  unfold selectF
  split
  · split
    · exact ⟨fun o ho => (by cases ho), List.nodup_nil⟩
    · exact selN_may _
  · exact ⟨fun o ho => (by cases ho), List.nodup_nil⟩
theorem cnt_le (n : Int) : cntF n ≤ 8 := by unfold cntF; split <;> omega
end Go.Proofs.YtkgbeihcepociaaDoor.Ex
end

section

set_option linter.unusedSimpArgs false
set_option linter.unusedVariables false
set_option maxRecDepth 10000
set_option maxHeartbeats 4000000
namespace Go.Proofs.YtkgbeihcepociaaDoor.Ex
open Go
theorem OwnL.low {α : Type} {R : Rep α} {n0 : Nat} {h : AH} {v : AV} {e : TypeId} {xs : List α} (ho : OwnL R (fun _ => False) n0 h v e xs) {b off n : Nat} {cap : Cap} (hv : v = .sl b off n cap) : n0 ≤ b ∧ b < h.n := by
  obtain ⟨L, h1, h2⟩ := ho
  rcases h1.2 with ⟨hh, _⟩ | ⟨p, hh, hp, hat⟩
  · rw [hh] at hv; cases hv
  · rw [hh] at hv; cases hv; exact ⟨hp, at_lt hat⟩
theorem OwnL.put {α : Type} {R : Rep α} {n0 : Nat} {h : AH} {v : AV} {e : TypeId} {xs : List α} (ho : OwnL R (fun _ => False) n0 h v e xs) {p : Nat} (hp : p < n0) (x : AB) : OwnL R (fun _ => False) n0 (h.put p x) v e xs :=
  ho.lift (fun b off n cap hv => at_put_ne x (by have := ho.low hv; omega)) (fun b hb => hb.elim)
theorem copy_x {F : Nat → Prop} {H : AH} {m : MapD} {vo vp vb vs vq : AV} {x root : Int} {os ds : List Int} {p : Nat} (k : Nat) (hm : MpAt F H m vo vp vb) (hok : OkM m) (hlo : Sm 40 m.osds) (hg : goodF m = true) (hr : root < 0) (h3 : kindF m root ≤ 3)
    (hp : H.at p = some (.cells (chC m vo vp vb x vs vq) 52)) (hs : OwnL RInt (fun _ => False) (p + 1) H vs 3 os) (hq : OwnL RInt (fun _ => False) (p + 1) H vq 3 ds) (hdj : Disj vs vq) (hsl : os.length ≤ k) (hql : ds.length ≤ k) (hk : k ≤ 8) (hi : ∀ d ∈ ds, 0 ≤ d → d ∈ os) :
    WC Tryd.prog (tabOf Tryd.prog NT0) S0 22 [.ptr p 0, .lit (.int .i64 root), .lit (.int .i64 k)] H fun v h' => v = .tup [] ∧ Ext p H h' ∧ ∃ vs' vq', h'.at p = some (.cells (chC m vo vp vb x vs' vq') 52) ∧
      OwnL RInt (fun _ => False) (p + 1) h' vs' 3 (copyR m x root (os, ds) k).1 ∧ OwnL RInt (fun _ => False) (p + 1) h' vq' 3 (copyR m x root (os, ds) k).2 ∧ Disj vs' vq' := by
  refine WC_fn Tryd.func22 rfl rfl ?_
  have lp := at_lt hp
  have hvs := hs.toSl (F := fun _ => True) (fun _ _ => trivial) (fun _ _ => trivial)
  have hvq := hq.toSl (F := fun _ => True) (fun _ _ => trivial) (fun _ _ => trivial)
  simp only [core, Nat.reduceAdd, Nat.reduceSub, Nat.reduceMul, Nat.reduceLT, Nat.reduceEqDiff, reduceCtorEq, Nat.reduceLeDiff, Int.reduceLE, Int.reduceLT, Int.reduceToNat, Tryd.ntmps22]
  refine WB_for 50 (fun i t h => Ext H.n H h ∧ firstR m x root (os, ds) k i = none ∧ t.n = 45 ∧ t.get 0 = .ptr p 0 ∧ t.get 1 = .lit (.int .i64 root) ∧ t.get 2 = .lit (.int .i64 k) ∧ t.get 10 = .lit (.int .i64 i)) ?_ ?_ _ _ ?_
  · rintro i t h hi50 hc ⟨he, hf, hn, g0, g1, g2, g10⟩ ih
    have hc : ((i : Int) < 50) = True := by simp only [eq_iff_iff, iff_true]; omega
    have hws := wrap_succ hi50 (by omega)
    have hwk : IntKind.i64.wrap ((k : Int) + (i : Int)) = ((k + i : Nat) : Int) := (wrap_in (by omega) (by omega)).trans (by omega)
    have P1 := (he.2 _ lp).trans hp
    have hf1 : firstR m x root (os, ds) k (i + 1) = tryR m x root (os, ds) ((k + i : Nat) : Int) := firstR_next hf
    have hT := try_same hg (x := x) (r := ((k + i : Nat) : Int)) (os := os) (ds := ds) h3 hr hi
    simp only [core, Nat.reduceAdd, Nat.reduceSub, Nat.reduceMul, Nat.reduceLT, Nat.reduceEqDiff, reduceCtorEq, Nat.reduceLeDiff, Int.reduceLE, Int.reduceLT, Int.reduceToNat, hn, g0, g1, g2, g10, hc, hwk]
    refine (tryC_x root _ (hm.ext he (Nat.le_refl _)) hok hlo hg P1 (hvs.ext he (Nat.le_refl _)) (hvq.ext he (Nat.le_refl _)) (by omega) (by omega) h3).mono ?_
    rintro _ h2 ⟨e2, rfl⟩
    have E2 := he.step e2
    obtain ⟨⟨o, d, b⟩, hy⟩ : ∃ y, y = tryC m root x ((k + i : Nat) : Int) os ds := ⟨_, rfl⟩
    rw [← hy] at hT ⊢
    cases b with
    | false =>
      simp only [core, Nat.reduceAdd, Nat.reduceSub, Nat.reduceMul, Nat.reduceLT, Nat.reduceEqDiff, reduceCtorEq, Nat.reduceLeDiff, Int.reduceLE, Int.reduceLT, Int.reduceToNat, hn, g0, g1, g2, g10, tryV, hws]
      refine ih _ _ ⟨E2, by rw [hf1, hT]; rfl, ?_⟩
      simp only [core, Nat.reduceAdd, Nat.reduceSub, Nat.reduceMul, Nat.reduceLT, Nat.reduceEqDiff, reduceCtorEq, Nat.reduceLeDiff, Int.reduceLE, Int.reduceLT, Int.reduceToNat, hn, g0, g1, g2, g10]
    | true =>
    have hT : tryR m x root (os, ds) ((k + i : Nat) : Int) = some (o, d) := hT
    rw [hT] at hf1
    have hS : copyR m x root (os, ds) k = (os ++ [o], ds ++ [d]) := by
      unfold copyR
      rw [firstR_le hf1 50 (by omega)]
    obtain ⟨I1, I2⟩ := tryR_i64 hm hT
    have P2 := (E2.2 _ lp).trans hp
    unfold chC at P2
    have LP2 := ld_at (T := tabOf Tryd.prog NT0) P2
    have l2 := at_lt P2
    have hs2 := hs.ext E2 (Nat.le_refl _)
    have hq2 := hq.ext E2 (Nat.le_refl _)
    have q2 := e2.1
    have q3 := he.1
    simp only [core, Nat.reduceAdd, Nat.reduceSub, Nat.reduceMul, Nat.reduceLT, Nat.reduceEqDiff, reduceCtorEq, Nat.reduceLeDiff, Int.reduceLE, Int.reduceLT, Int.reduceToNat, hn, g0, g1, g2, g10, tryV, LP2, l2]
    obtain ⟨h3', hh3⟩ : ∃ h3', h3' = h2.push (.cells [.lit (.int .i64 o)] 3) := ⟨_, rfl⟩
    have e3 : Ext h2.n h2 h3' := hh3 ▸ (Ext.refl _ _).push _ (Nat.le_refl _)
    have A3 : h3'.at h2.n = some (.cells [.lit (.int .i64 o)] 3) := hh3 ▸ at_push_n h2 _
    have q4 := e3.1
    rw [← hh3]
    refine WOp_app ((hs2.ext e3 (Nat.le_refl _)).snoc (by kernel_rfl) (by kernel_rfl) (by kernel_rfl) (zv := .lit (.int .i64 0)) (by kernel_rfl) (by' := 8) (by kernel_rfl) rfl (by decide) (by decide) A3 (y := o) ⟨rfl, I1⟩ (by omega) (by omega) (by omega)) ?_
    rintro s8 h4 ⟨ho4, e4, k4⟩
    have P4 := ((e4.2 _ (by omega)).trans (e3.2 _ l2)).trans P2
    have LP4 := ld_at (T := tabOf Tryd.prog NT0) P4
    have l4 := at_lt P4
    have t8 := ho4.one
    obtain ⟨hq4, hd4⟩ := (hq2.ext e3 (Nat.le_refl _)).other hdj k4
    simp only [core, Nat.reduceAdd, Nat.reduceSub, Nat.reduceMul, Nat.reduceLT, Nat.reduceEqDiff, reduceCtorEq, Nat.reduceLeDiff, Int.reduceLE, Int.reduceLT, Int.reduceToNat, hn, g0, g1, g2, g10, LP4, l4, P4, t8]
    obtain ⟨h5, hh5⟩ : ∃ h5, h5 = h4.put p (.cells [.lit (.int .i64 m.epoch), vo, vp, vb, .lit (.int .i64 m.leaf), .lit (.int .u32 x), s8, vq] 52) := ⟨_, rfl⟩
    have e5 : Ext p h4 h5 := hh5 ▸ (Ext.refl _ _).put _ (Nat.le_refl _)
    have P5 : h5.at p = some (.cells [.lit (.int .i64 m.epoch), vo, vp, vb, .lit (.int .i64 m.leaf), .lit (.int .u32 x), s8, vq] 52) := hh5 ▸ at_put_same _ l4
    have ho5 : OwnL RInt (fun _ => False) (p + 1) h5 s8 3 (os ++ [o]) := hh5 ▸ ho4.put (by omega) _
    have hq5 : OwnL RInt (fun _ => False) (p + 1) h5 vq 3 ds := hh5 ▸ hq4.put (by omega) _
    have n5 : h5.n = h4.n := by rw [hh5, n_put]
    rw [← hh5]
    obtain ⟨h6, hh6⟩ : ∃ h6, h6 = h5.push (.cells [.lit (.int .i64 d)] 3) := ⟨_, rfl⟩
    have e6 : Ext h5.n h5 h6 := hh6 ▸ (Ext.refl _ _).push _ (Nat.le_refl _)
    have A6 : h6.at h4.n = some (.cells [.lit (.int .i64 d)] 3) := by rw [← n5, hh6]; exact at_push_n h5 _
    have q5 := e6.1
    rw [← hh6]
    refine WOp_app ((hq5.ext e6 (Nat.le_refl _)).snoc (by kernel_rfl) (by kernel_rfl) (by kernel_rfl) (zv := .lit (.int .i64 0)) (by kernel_rfl) (by' := 8) (by kernel_rfl) rfl (by decide) (by decide) A6 (y := d) ⟨rfl, I2⟩ (by omega) (by omega) (by omega)) ?_
    rintro s9 h7 ⟨ho7, e7, k7⟩
    have P7 := ((e7.2 _ (by omega)).trans (e6.2 _ (by omega))).trans P5
    have LP7 := ld_at (T := tabOf Tryd.prog NT0) P7
    have l7 := at_lt P7
    have t9 := ho7.one
    obtain ⟨ho7', hd7⟩ := (ho5.ext e6 (Nat.le_refl _)).other hd4.symm k7
    simp only [core, Nat.reduceAdd, Nat.reduceSub, Nat.reduceMul, Nat.reduceLT, Nat.reduceEqDiff, reduceCtorEq, Nat.reduceLeDiff, Int.reduceLE, Int.reduceLT, Int.reduceToNat, hn, g0, g1, g2, g10, LP7, l7, P7, t9]
    have q7 := e4.1
    have q8 := e7.1
    have EE : Ext p H (h7.put p (.cells [.lit (.int .i64 m.epoch), vo, vp, vb, .lit (.int .i64 m.leaf), .lit (.int .u32 x), s8, s9] 52)) := by
      exact ((((((E2.mono (by omega)).trans (e3.mono (by omega))).trans (e4.mono (by omega))).trans e5).trans (e6.mono (by omega))).trans (e7.mono (by omega))).put _ (Nat.le_refl _)
    refine ⟨EE, s8, s9, rfl, ?_, ?_, hd7.symm⟩
    · rw [hS]; exact ho7'.put (by omega) _
    · rw [hS]; exact ho7.put (by omega) _
  · rintro t h hc ⟨he, hf, hn, g0, g1, g2, g10⟩
    have hc : ((50 : Int) < 50) = False := by decide
    have hc' : (((50 : Nat) : Int) < 50) = False := by decide
    have hS : copyR m x root (os, ds) k = (os, ds) := by
      unfold copyR
      rw [hf]
    simp only [core, Nat.reduceAdd, Nat.reduceSub, Nat.reduceMul, Nat.reduceLT, Nat.reduceEqDiff, reduceCtorEq, Nat.reduceLeDiff, Int.reduceLE, Int.reduceLT, Int.reduceToNat, hn, g0, g1, g2, g10, hc, hc']
    refine ⟨by simp, ⟨he.1, fun b hb => he.2 b (by omega)⟩, vs, vq, (he.2 _ lp).trans hp, ?_, ?_, hdj⟩
    · rw [hS]; exact hs.ext he (Nat.le_refl _)
    · rw [hS]; exact hq.ext he (Nat.le_refl _)
  · simp only [core, Nat.reduceAdd, Nat.reduceSub, Nat.reduceMul, Nat.reduceLT, Nat.reduceEqDiff, reduceCtorEq, Nat.reduceLeDiff, Int.reduceLE, Int.reduceLT, Int.reduceToNat]
    refine ⟨Ext.refl _ _, firstR_zero, ?_⟩
    (repeat' apply And.intro) <;> first | rfl | trivial
end Go.Proofs.YtkgbeihcepociaaDoor.Ex
end

section

set_option linter.unusedSimpArgs false
set_option linter.unusedVariables false
set_option maxRecDepth 10000
set_option maxHeartbeats 4000000
namespace Go.Proofs.YtkgbeihcepociaaDoor.Ex
open Go
theorem root_good {m : MapD} (hg : goodF m = true) {root : Int} (hr : root ∈ rootsR m) : root < 0 ∧ kindF m root ≤ 3 := by
  obtain ⟨h1, _, h3⟩ := roots_walk hg m.buckets.length (Nat.le_refl _)
  obtain ⟨c, hc, rfl⟩ := h3 root (h1.subset hr)
  have hc := List.mem_of_mem_take hc
  cases hb : bucketF m c.id with
  | none =>
    unfold bucketF at hb
    exact absurd (List.find?_eq_none.1 hb c hc) (by simp)
  | some b =>
    obtain ⟨g1, g2, g3, g4, g5, -⟩ := good_bkt hg hb
    refine ⟨by omega, ?_⟩
    rw [kind_bkt (by omega) hb]
    exact g4
theorem cnt_eq (n : Int) : (if 8 < (if n < 0 then 0 else n) then 8 else (if n < 0 then 0 else n)) = ((cntF n : Nat) : Int) := by
  unfold cntF
  repeat' split
  all_goals omega
theorem selectC_x {F : Nat → Prop} {H : AH} {m : MapD} {vo vp vb : AV} (x n : Int) (hm : MpAt F H m vo vp vb) (hok : OkM m) (hlo : Sm 40 m.osds) :
    WC Tryd.prog (tabOf Tryd.prog NT0) S0 10 [mpV m vo vp vb, .lit (.int .u32 x), .lit (.int .i64 n)] H fun v h' => Ext H.n H h' ∧ IsSl RInt (fun b => H.n ≤ b) h' v (selectF m x n) := by
  refine WC_fn Tryd.func10 rfl rfl ?_
  have o1 := hm.o.one
  have o2 := hm.p.one
  have o3 := hm.b.one
  have EP : ∀ x, Ext H.n H (H.push x) := fun x => (Ext.refl _ _).push _ (Nat.le_refl _)
  simp only [core, Nat.reduceAdd, Nat.reduceSub, Nat.reduceMul, Nat.reduceLT, Nat.reduceEqDiff, reduceCtorEq, Nat.reduceLeDiff, Int.reduceLE, Int.reduceLT, Int.reduceToNat, Tryd.ntmps10, mpV, o1, o2, o3]
  obtain ⟨h1, hh1⟩ : ∃ h1, h1 = H.push (.cells [.lit (.int .i64 m.epoch), vo, vp, vb, .lit (.int .i64 m.leaf)] 26) := ⟨_, rfl⟩
  have E1 : Ext H.n H h1 := hh1 ▸ EP _
  have A1 : h1.at H.n = some (.cells [.lit (.int .i64 m.epoch), vo, vp, vb, .lit (.int .i64 m.leaf)] 26) := hh1 ▸ at_push_n _ _
  have l1 := at_lt A1
  rw [← hh1]
  clear hh1
  refine (goodC_x (hm.ext E1 (Nat.le_refl _)) hok).mono ?_
  rintro _ h2 ⟨e2, rfl⟩
  have E2 := E1.step e2
  have A2 := (e2.2 _ l1).trans A1
  have l2 := at_lt A2
  have LA2 := ld_at (T := tabOf Tryd.prog NT0) A2
  cases hg : goodF m with
  | false =>
    simp only [core, Nat.reduceAdd, Nat.reduceSub, Nat.reduceMul, Nat.reduceLT, Nat.reduceEqDiff, reduceCtorEq, Nat.reduceLeDiff, Int.reduceLE, Int.reduceLT, Int.reduceToNat]
    refine ⟨E2, ?_⟩
    unfold selectF
    rw [hg]
    exact IsSl.nil
  | true =>
  simp only [core, Nat.reduceAdd, Nat.reduceSub, Nat.reduceMul, Nat.reduceLT, Nat.reduceEqDiff, reduceCtorEq, Nat.reduceLeDiff, Int.reduceLE, Int.reduceLT, Int.reduceToNat, LA2, l2]
  refine (rootsG_x (hm.ext E2 (Nat.le_refl _)) hok hg).mono ?_
  rintro vr h3 ⟨e3, hr3⟩
  have E3 := E2.step e3
  have A3 := (e3.2 _ l2).trans A2
  have l3 := at_lt A3
  have LA3 := ld_at (T := tabOf Tryd.prog NT0) A3
  have r1 := hr3.isSl
  have r2 := hr3.lenD
  simp only [corem, WB_cond_s, put, ldL, WB_label, List.nil_append, List.drop_zero, List.take_zero, Nat.reduceAdd, Nat.reduceSub, Nat.reduceMul, Nat.reduceLT, Nat.reduceEqDiff, reduceCtorEq, Nat.reduceLeDiff, Int.reduceLE, Int.reduceLT, Int.reduceToNat, r1, r2, -WB_cond_s]
  rw [WB_cond_s]
  simp only [corem, WB_cond_s, put, ldL, WB_label, List.nil_append, List.drop_zero, List.take_zero, Nat.reduceAdd, Nat.reduceSub, Nat.reduceMul, Nat.reduceLT, Nat.reduceEqDiff, reduceCtorEq, Nat.reduceLeDiff, Int.reduceLE, Int.reduceLT, Int.reduceToNat, -WB_cond_s]
  cases hrt : rootsR m with
  | nil =>
    refine ⟨fun _ => ⟨E3, ?_⟩, fun hq => absurd hq (by decide)⟩
    unfold selectF
    rw [hg, hrt]
    exact IsSl.nil
  | cons root rest =>
  obtain ⟨hr0, hk3⟩ := root_good hg (root := root) (by rw [hrt]; simp)
  have hrl : (0 : Nat) < (rootsR m).length := by rw [hrt]; simp
  have hrg : (rootsR m).getD 0 0 = root := by rw [hrt]; rfl
  have hsel : selectF m x n = (selN m x root (cntF n)).1 := by unfold selectF; rw [hg, hrt]; rfl
  rw [← hrt]
  refine ⟨fun hq => absurd (eq_of_beq hq) (by omega), fun hq0 => ?_⟩
  simp only [core, Nat.reduceAdd, Nat.reduceSub, Nat.reduceMul, Nat.reduceLT, Nat.reduceEqDiff, reduceCtorEq, Nat.reduceLeDiff, Int.reduceLE, Int.reduceLT, Int.reduceToNat, LA3, l3, o1, o2, o3]
  obtain ⟨h4, hh4⟩ : ∃ h4, h4 = h3.push (.cells [.lit (.int .i64 m.epoch), vo, vp, vb, .lit (.int .i64 m.leaf), .lit (.int .u32 x), .lit (.slice none 0 0), .lit (.slice none 0 0)] 52) := ⟨_, rfl⟩
  have P4 : h4.at h3.n = some (.cells (chC m vo vp vb x (.lit (.slice none 0 0)) (.lit (.slice none 0 0))) 52) := hh4 ▸ at_push_n _ _
  have e4 : Ext h3.n h3 h4 := hh4 ▸ (Ext.refl _ _).push _ (Nat.le_refl _)
  rw [← hh4]
  clear hh4
  simp only [cnt_eq]
  have hc8 := cnt_le n
  refine WB_for (cntF n) (fun k t h => ∃ vs vq, h.at h3.n = some (.cells (chC m vo vp vb x vs vq) 52) ∧ OwnL RInt (fun _ => False) (h3.n + 1) h vs 3 (selN m x root k).1 ∧ OwnL RInt (fun _ => False) (h3.n + 1) h vq 3 (selN m x root k).2 ∧ Disj vs vq ∧ Ext h3.n h3 h ∧ t.n = 39 ∧ t.get 7 = vr ∧ t.get 8 = .ptr h3.n 0 ∧ t.get 24 = .lit (.int .i64 (cntF n)) ∧ t.get 25 = .lit (.int .i64 k)) ?_ ?_ _ _ ?_
  · rintro k t h hlt hc ⟨vs, vq, P, hvs, hvq, hdj, he, hn, g7, g8, g24, g25⟩ ih
    have hws := wrap_succ hlt (by omega)
    have hld := (hr3.ext he (Nat.le_refl _)).int (T := tabOf Tryd.prog NT0) (e := 3) (by kernel_rfl) (by kernel_rfl) hrl
    rw [hrg, Nat.add_zero] at hld
    obtain ⟨q1, q2⟩ := selN_len m x root k
    simp only [core, Nat.reduceAdd, Nat.reduceSub, Nat.reduceMul, Nat.reduceLT, Nat.reduceEqDiff, reduceCtorEq, Nat.reduceLeDiff, Int.reduceLE, Int.reduceLT, Int.reduceToNat, hn, g7, g8, g24, g25, hc, hld, r1, r2, hrl]
    refine (copy_x k (hm.ext (E3.step he) (Nat.le_refl _)) hok hlo hg hr0 hk3 P hvs hvq hdj q1 q2 (by omega) (selN_inv k)).mono ?_
    rintro _ h' ⟨rfl, e', vs', vq', P', hvs', hvq', hdj'⟩
    simp only [core, Nat.reduceAdd, Nat.reduceSub, Nat.reduceMul, Nat.reduceLT, Nat.reduceEqDiff, reduceCtorEq, Nat.reduceLeDiff, Int.reduceLE, Int.reduceLT, Int.reduceToNat, hn, g7, g8, g24, g25, hws]
    refine ih _ _ ⟨vs', vq', P', hvs', hvq', hdj', he.trans e', ?_⟩
    simp only [core, Nat.reduceAdd, Nat.reduceSub, Nat.reduceMul, Nat.reduceLT, Nat.reduceEqDiff, reduceCtorEq, Nat.reduceLeDiff, Int.reduceLE, Int.reduceLT, Int.reduceToNat, hn, g7, g8, g24, g25]
  · rintro t h hc ⟨vs, vq, P, hvs, hvq, hdj, he, hn, g7, g8, g24, g25⟩
    unfold chC at P
    have LP := ld_at (T := tabOf Tryd.prog NT0) P
    have lP := at_lt P
    have o4 := hvs.one
    simp only [core, Nat.reduceAdd, Nat.reduceSub, Nat.reduceMul, Nat.reduceLT, Nat.reduceEqDiff, reduceCtorEq, Nat.reduceLeDiff, Int.reduceLE, Int.reduceLT, Int.reduceToNat, hn, g7, g8, g24, g25, hc, LP, lP, o4]
    refine ⟨E3.step he, ?_⟩
    rw [hsel]
    exact hvs.toSl (fun _ hf => hf.elim) (fun b hb => by have := E3.1; omega)
  · simp only [core, Nat.reduceAdd, Nat.reduceSub, Nat.reduceMul, Nat.reduceLT, Nat.reduceEqDiff, reduceCtorEq, Nat.reduceLeDiff, Int.reduceLE, Int.reduceLT, Int.reduceToNat]
    exact ⟨_, _, P4, OwnL.nil, OwnL.nil, Disj.nil_l, e4, rfl⟩
end Go.Proofs.YtkgbeihcepociaaDoor.Ex
end

section

set_option linter.unusedSimpArgs false
set_option linter.unusedVariables false
set_option maxRecDepth 10000
set_option maxHeartbeats 4000000
namespace Go.Proofs.YtkgbeihcepociaaDoor.Ex
open Go
def sumW (l : List Int) (i : Nat) : Int := (l.take i).foldl (fun n w => IntKind.i64.wrap (n + w)) 0
theorem sumW_succ {l : List Int} {i : Nat} (h : i < l.length) : sumW l (i + 1) = IntKind.i64.wrap (sumW l i + l.getD i 0) := by
  unfold sumW
  rw [List.take_add_one, List.getElem?_eq_getElem h, List.foldl_append, List.getD_eq_getElem?_getD, List.getElem?_eq_getElem h]
  rfl
theorem wrap_i64 (n : Int) : I64 (IntKind.i64.wrap n) := by
  unfold I64
  rw [IntKind.wrap_i64]
  omega
theorem sumW_i64 {l : List Int} : ∀ i, I64 (sumW l i)
  | 0 => (show I64 0 from ⟨by decide, by decide⟩)
  | i + 1 => by
    by_cases h : i < l.length
    · rw [sumW_succ h]; exact wrap_i64 _
    · have : sumW l (i + 1) = sumW l i := by unfold sumW; rw [List.take_of_length_le (by omega), List.take_of_length_le (by omega)]
      rw [this]
      exact sumW_i64 i
def weightF (m : MapD) (id : Int) : Int := sumW (bucketG m id).weights (bucketG m id).weights.length
theorem weight_x {F : Nat → Prop} {H : AH} {m : MapD} {vo vp vb : AV} (id : Int) (hm : MpAt F H m vo vp vb) (hok : OkM m) (hg : goodF m = true) (hid : id < 0) :
    WC Tryd.prog (tabOf Tryd.prog NT0) S0 31 [mpV m vo vp vb, .lit (.int .i64 id)] H fun v h' => Ext H.n H h' ∧ v = .lit (.int .i64 (weightF m id)) := by
  refine WC_fn Tryd.func31 rfl rfl ?_
  obtain ⟨hl, hbs, -⟩ := _root_.id hok
  have o1 := hm.o.one
  have o2 := hm.p.one
  have o3 := hm.b.one
  simp only [core, Nat.reduceAdd, Nat.reduceSub, Nat.reduceMul, Nat.reduceLT, Nat.reduceEqDiff, reduceCtorEq, Nat.reduceLeDiff, Int.reduceLE, Int.reduceLT, Int.reduceToNat, Tryd.ntmps31, mpV, o1, o2, o3]
  obtain ⟨h1, hh1⟩ : ∃ h1, h1 = H.push (.cells [.lit (.int .i64 m.epoch), vo, vp, vb, .lit (.int .i64 m.leaf)] 26) := ⟨_, rfl⟩
  have E1 : Ext H.n H h1 := hh1 ▸ (Ext.refl _ _).push _ (Nat.le_refl _)
  have P1 : h1.at H.n = some (.cells [.lit (.int .i64 m.epoch), vo, vp, vb, .lit (.int .i64 m.leaf)] 26) := hh1 ▸ at_push_n _ _
  rw [← hh1]
  clear hh1
  have lp1 := at_lt P1
  refine (goodC_x (hm.ext E1 (Nat.le_refl _)) hok).mono ?_
  rintro _ h2 ⟨e2, rfl⟩
  rw [hg]
  have E2 := E1.step e2
  have P2 := (e2.2 _ lp1).trans P1
  have lp2 := at_lt P2
  have LP2 := ld_at (T := tabOf Tryd.prog NT0) P2
  have c0 : ¬ 0 ≤ id := by omega
  simp only [core, Nat.reduceAdd, Nat.reduceSub, Nat.reduceMul, Nat.reduceLT, Nat.reduceEqDiff, reduceCtorEq, Nat.reduceLeDiff, Int.reduceLE, Int.reduceLT, Int.reduceToNat, LP2, lp2, o1, o2, o3, c0]
  refine (bucket_x id (hm.ext E2 (Nat.le_refl _)) hl hbs).mono ?_
  rintro _ h3 ⟨e3, va, vw, rfl, b1, b2⟩
  have E3 := E2.step e3
  have q1 := b1.one
  have q2 := b2.one
  have hwl : (bucketG m id).weights.length ≤ 17592186044416 := by
    cases hb : bucketF m id with
    | none => rw [show bucketG m id = bkt0 by unfold bucketG; rw [hb]; rfl]; decide
    | some b =>
      rw [show bucketG m id = b by unfold bucketG; rw [hb]; rfl]
      obtain ⟨u1, u2, u3, u4, u5, u6, u7, u8⟩ := good_bkt hg hb
      obtain ⟨w1, w2⟩ := hbs b u1
      unfold Sm at w2
      omega
  obtain ⟨bk, hbk⟩ : ∃ bk, bk = bucketG m id := ⟨_, rfl⟩
  rw [← hbk] at b1 b2 hwl
  have hG := hbk.symm
  have hW : weightF m id = sumW bk.weights bk.weights.length := by unfold weightF; rw [hG]
  have d1 := b2.isSl
  have d2 := b2.lenD
  simp only [core, Nat.reduceAdd, Nat.reduceSub, Nat.reduceMul, Nat.reduceLT, Nat.reduceEqDiff, reduceCtorEq, Nat.reduceLeDiff, Int.reduceLE, Int.reduceLT, Int.reduceToNat, bktV, q1, q2, hG, hW, d1, d2]
  obtain ⟨h4, hh4⟩ : ∃ h4, h4 = h3.push (.cells [.lit (.int .i64 bk.id), .lit (.int .i64 bk.kind), va, vw] 47) := ⟨_, rfl⟩
  have e4 : Ext h3.n h3 h4 := hh4 ▸ (Ext.refl _ _).push _ (Nat.le_refl _)
  have P4 : h4.at h3.n = some (.cells [.lit (.int .i64 bk.id), .lit (.int .i64 bk.kind), va, vw] 47) := hh4 ▸ at_push_n _ _
  have LP4 := ld_at (T := tabOf Tryd.prog NT0) P4
  have lp4 := at_lt P4
  rw [← hh4]
  clear hh4
  have E4 := E3.step e4
  have hvw := b2.ext e4 (Nat.le_refl _)
  refine WB_for bk.weights.length (fun i t h => h = h4 ∧ t.n = 44 ∧ t.get 9 = .lit (.int .i64 (sumW bk.weights i)) ∧ t.get 33 = vw ∧ t.get 34 = .lit (.int .i64 bk.weights.length) ∧ t.get 35 = .lit (.int .i64 i)) ?_ ?_ _ _ ?_
  · rintro i t h hlt hc ⟨rfl, hn, g9, g33, g34, g35⟩ ih
    have hld := hvw.int (T := tabOf Tryd.prog NT0) (e := 3) (by kernel_rfl) (by kernel_rfl) hlt
    have hws := wrap_succ hlt (by omega)
    have hs := sumW_succ hlt
    simp only [core, Nat.reduceAdd, Nat.reduceSub, Nat.reduceMul, Nat.reduceLT, Nat.reduceEqDiff, reduceCtorEq, Nat.reduceLeDiff, Int.reduceLE, Int.reduceLT, Int.reduceToNat, hn, g9, g33, g34, g35, hlt, hc, hws, d1, d2, hld, ← hs]
    refine ih _ _ ⟨rfl, ?_⟩
    simp only [core, Nat.reduceAdd, Nat.reduceSub, Nat.reduceMul, Nat.reduceLT, Nat.reduceEqDiff, reduceCtorEq, Nat.reduceLeDiff, Int.reduceLE, Int.reduceLT, Int.reduceToNat, hn, g9, g33, g34, g35]
  · rintro t h hc ⟨rfl, hn, g9, g33, g34, g35⟩
    simp only [core, Nat.reduceAdd, Nat.reduceSub, Nat.reduceMul, Nat.reduceLT, Nat.reduceEqDiff, reduceCtorEq, Nat.reduceLeDiff, Int.reduceLE, Int.reduceLT, Int.reduceToNat, hn, g9, g33, g34, g35, hc]
    exact E4
  · refine ⟨rfl, ?_⟩
    simp only [core, Nat.reduceAdd, Nat.reduceSub, Nat.reduceMul, Nat.reduceLT, Nat.reduceEqDiff, reduceCtorEq, Nat.reduceLeDiff, Int.reduceLE, Int.reduceLT, Int.reduceToNat, d1, d2]
    (repeat' apply And.intro) <;> first | rfl | trivial
theorem rootsC_len {m : MapD} (hg : goodF m = true) : (rootsR m).length ≤ m.buckets.length := by
  obtain ⟨h1, _, _⟩ := roots_walk hg m.buckets.length (Nat.le_refl _)
  have h2 : (rootsR m).length = (orphN m m.buckets.length).length := h1.length_eq
  rw [h2]
  exact orphN_len m _
def rootLines (m : MapD) (k : Nat) : List ByteArray := tellF m 4 ((rootsR m).getD k 0) (weightF m ((rootsR m).getD k 0)) ⟨#[]⟩
def treeF (m : MapD) : List ByteArray := if goodF m then upto (rootLines m) (rootsR m).length else []
theorem tree_x {F : Nat → Prop} {H : AH} {m : MapD} {vo vp vb : AV} {e : TypeId} (hm : MpAt F H m vo vp vb) (hF : ∀ b, F b → b < H.n) (hok : OkM m) (hT : H.at 1 = some (.frz tabL e)) (hlen : (treeF m).length ≤ 1099511627776) :
    WC Tryd.prog (tabOf Tryd.prog NT0) S0 13 [mpV m vo vp vb] H fun v h' => Ext H.n H h' ∧ IsSl RStr (fun b => H.n ≤ b) h' v (treeF m) := by
  refine WC_fn Tryd.func13 rfl rfl ?_
  obtain ⟨hl, hbs, -⟩ := _root_.id hok
  have o1 := hm.o.one
  have o2 := hm.p.one
  have o3 := hm.b.one
  have lt1 := at_lt hT
  simp only [core, Nat.reduceAdd, Nat.reduceSub, Nat.reduceMul, Nat.reduceLT, Nat.reduceEqDiff, reduceCtorEq, Nat.reduceLeDiff, Int.reduceLE, Int.reduceLT, Int.reduceToNat, Tryd.ntmps13, mpV, o1, o2, o3]
  obtain ⟨h1, hh1⟩ : ∃ h1, h1 = H.push (.cells [.lit (.int .i64 m.epoch), vo, vp, vb, .lit (.int .i64 m.leaf)] 26) := ⟨_, rfl⟩
  have E1 : Ext H.n H h1 := hh1 ▸ (Ext.refl _ _).push _ (Nat.le_refl _)
  have P1 : h1.at H.n = some (.cells [.lit (.int .i64 m.epoch), vo, vp, vb, .lit (.int .i64 m.leaf)] 26) := hh1 ▸ at_push_n _ _
  rw [← hh1]
  clear hh1
  have lp1 := at_lt P1
  refine (goodC_x (hm.ext E1 (Nat.le_refl _)) hok).mono ?_
  rintro _ h2 ⟨e2, rfl⟩
  have E2 := E1.step e2
  unfold treeF at hlen ⊢
  cases hg : goodF m with
  | false =>
    simp only [core, Nat.reduceAdd, Nat.reduceSub, Nat.reduceMul, Nat.reduceLT, Nat.reduceEqDiff, reduceCtorEq, Nat.reduceLeDiff, Int.reduceLE, Int.reduceLT, Int.reduceToNat]
    exact ⟨E2, IsSl.nil⟩
  | true =>
  rw [hg, if_pos rfl] at hlen
  simp only [core, Nat.reduceAdd, Nat.reduceSub, Nat.reduceMul, Nat.reduceLT, Nat.reduceEqDiff, reduceCtorEq, Nat.reduceLeDiff, Int.reduceLE, Int.reduceLT, Int.reduceToNat]
  obtain ⟨h3, hh3⟩ : ∃ h3, h3 = (h2.push (.cells [.lit (.slice none 0 0)] 35)).push (.cells [.fn (.func 28) [] [.ptr H.n 0, .ptr h2.n 0, .ptr (h2.n + 1) 0]] 57) := ⟨_, rfl⟩
  have hn2 := e2.1
  have hh1 := E1.1
  have E3 : Ext H.n H h3 := hh3 ▸ (E2.push _ (by omega)).push _ (by rw [n_push]; omega)
  have n3 : h3.n = h2.n + 2 := by rw [hh3, n_push, n_push]
  have O3 : h3.at h2.n = some (.cells [.lit (.slice none 0 0)] 35) := hh3 ▸ (at_push_lt _ (by rw [n_push]; omega)).trans (at_push_n _ _)
  have T3 : h3.at (h2.n + 1) = some (.cells [.fn (.func 28) [] [.ptr H.n 0, .ptr h2.n 0, .ptr (h2.n + 1) 0]] 57) := hh3 ▸ (by have := at_push_n (h2.push (.cells [.lit (.slice none 0 0)] 35)) (.cells [.fn (.func 28) [] [.ptr H.n 0, .ptr h2.n 0, .ptr (h2.n + 1) 0]] 57); rw [n_push] at this; exact this)
  have P3 : h3.at H.n = some (.cells [.lit (.int .i64 m.epoch), vo, vp, vb, .lit (.int .i64 m.leaf)] 26) := hh3 ▸ ((at_push_lt _ (by rw [n_push]; omega)).trans (at_push_lt _ (by omega))).trans ((e2.2 _ lp1).trans P1)
  have LP3 := ld_at (T := tabOf Tryd.prog NT0) P3
  have lp3 := at_lt P3
  have hw3 : TwAt F h3 m vo vp vb e H.n h2.n (h2.n + 1) := ⟨(E3.2 _ lt1).trans hT, P3, T3, hm.ext E3 (Nat.le_refl _)⟩
  rw [← hh3]
  clear hh3
  simp only [core, Nat.reduceAdd, Nat.reduceSub, Nat.reduceMul, Nat.reduceLT, Nat.reduceEqDiff, reduceCtorEq, Nat.reduceLeDiff, Int.reduceLE, Int.reduceLT, Int.reduceToNat, LP3, lp3, o1, o2, o3]
  refine (rootsG_x (hm.ext E3 (Nat.le_refl _)) hok hg).mono ?_
  rintro vr h4 ⟨e4, hr⟩
  have E4 := E3.step e4
  have r1 := hr.isSl
  have r2 := hr.lenD
  have hn4 := e4.1
  have O4 := (e4.2 _ (at_lt O3)).trans O3
  have hw4 := hw3.keep (fun b hb => hF b hb) (by omega) (by omega) (by omega) (fun b hb _ => e4.2 b (by omega))
  have hrl : (rootsR m).length ≤ 17592186044416 := by
    have h1 := (rootsC_len hg)
    unfold Sm at hl
    omega
  simp only [core, Nat.reduceAdd, Nat.reduceSub, Nat.reduceMul, Nat.reduceLT, Nat.reduceEqDiff, reduceCtorEq, Nat.reduceLeDiff, Int.reduceLE, Int.reduceLT, Int.reduceToNat, r1, r2]
  refine WB_for (rootsR m).length (fun i t h => (∃ s', FrS h2.n h4 (.lit (.slice none 0 0)) h s' ∧ h.at h2.n = some (.cells [s'] 35) ∧ OwnL RStr (fun _ => False) (h2.n + 1 + 1) h s' 9 (upto (rootLines m) i)) ∧ t.n = 26 ∧ t.get 1 = .ptr H.n 0 ∧ t.get 3 = .ptr h2.n 0 ∧ t.get 4 = .ptr (h2.n + 1) 0 ∧ t.get 12 = vr ∧ t.get 13 = .lit (.int .i64 (rootsR m).length) ∧ t.get 14 = .lit (.int .i64 i)) ?_ ?_ _ _ ?_
  · rintro i t h hlt hc ⟨⟨s', fr, hpo', ho'⟩, hn, g1, g3, g4, g12, g13, g14⟩ ih
    have hlo : ∀ b, b < h4.n → b ≠ h2.n → h.at b = h4.at b := fun b hb hne => (fr.2 b hb hne (fun _ _ _ hh => by cases hh)).1
    have hwh := hw4.keep (fun b hb => hF b hb) (by omega) (by omega) (by omega) (fun b hb hne => hlo b (by omega) hne)
    have P := hwh.box
    have LP := ld_at (T := tabOf Tryd.prog NT0) P
    have lp := at_lt P
    have LT := ld_at (T := tabOf Tryd.prog NT0) hwh.fn
    have lt := at_lt hwh.fn
    have hvr : IsSl RInt (fun _ => True) h vr (rootsR m) := hr.lift fun b hb hlt1 => ⟨hlo b (by omega) (by omega), trivial⟩
    have hld := hvr.int (T := tabOf Tryd.prog NT0) (e := 3) (by kernel_rfl) (by kernel_rfl) hlt
    have hws := wrap_succ hlt (by omega)
    obtain ⟨hneg, hk3⟩ := root_good hg (List.mem_of_getElem? (getD_some' 0 hlt))
    have hbk : (bucketG m ((rootsR m).getD i 0)).kind < 4 := by
      cases hb : bucketF m ((rootsR m).getD i 0) with
      | none => rw [show bucketG m ((rootsR m).getD i 0) = bkt0 by unfold bucketG; rw [hb]; rfl]; decide
      | some b =>
        rw [show bucketG m ((rootsR m).getD i 0) = b by unfold bucketG; rw [hb]; rfl]
        obtain ⟨u1, u2, u3, u4, u5, u6, u7, u8⟩ := good_bkt hg hb
        omega
    have i1 := hm.o.isSl
    have i2 := hm.p.isSl
    have i3 := hm.b.isSl
    have hsm : AV.same 8 (.fn (.func 28) [] [.ptr H.n 0, .ptr h2.n 0, .ptr (h2.n + 1) 0]) (.fn (.func 28) [] [.ptr H.n 0, .ptr h2.n 0, .ptr (h2.n + 1) 0]) = true := by simp [AV.same, fnEq]
    simp only [core, Nat.reduceAdd, Nat.reduceSub, Nat.reduceMul, Nat.reduceLT, Nat.reduceEqDiff, reduceCtorEq, Nat.reduceLeDiff, Int.reduceLE, Int.reduceLT, Int.reduceToNat, hn, g1, g3, g4, g12, g13, g14, hlt, hc, hld, r1, r2]
    rw [WB_regionD [0, 1, 2, 3, 4, 5] 33487323136 (by kernel_rfl)]
    repeat ((with_reducible refine WDM_cons ?_; simp only [dw1]; try simp only [dw2, Nat.reduceAdd, Nat.reduceMul, Nat.reduceShiftRight, Nat.reduceMod, Nat.reduceEqDiff]); simp only [core, Nat.reduceAdd, Nat.reduceSub, Nat.reduceMul, Nat.reduceLT, Nat.reduceEqDiff, reduceCtorEq, Nat.reduceLeDiff, Int.reduceLE, Int.reduceLT, Int.reduceToNat, cored, hn, g1, g3, g4, g12, g13, g14, LP, lp, LT, lt, o1, o2, o3, i1, i2, i3, hsm])
    refine (weight_x ((rootsR m).getD i 0) hwh.mp hok hg hneg).mono ?_
    rintro _ h5 ⟨e5, rfl⟩
    have hw5 := hwh.keep (fun b hb => hF b hb) (by omega) (by omega) (by omega) (fun b hb _ => e5.2 b (by have := fr.1; omega))
    have LT5 := ld_at (T := tabOf Tryd.prog NT0) hw5.fn
    have lt5 := at_lt hw5.fn
    have hpo5 := (e5.2 _ (at_lt hpo')).trans hpo'
    have ho5 := ho'.ext e5 (Nat.le_refl _)
    repeat ((with_reducible refine WDM_cons ?_; simp only [dw1]; try simp only [dw2, Nat.reduceAdd, Nat.reduceMul, Nat.reduceShiftRight, Nat.reduceMod, Nat.reduceEqDiff]); simp only [core, Nat.reduceAdd, Nat.reduceSub, Nat.reduceMul, Nat.reduceLT, Nat.reduceEqDiff, reduceCtorEq, Nat.reduceLeDiff, Int.reduceLE, Int.reduceLT, Int.reduceToNat, cored, hn, g1, g3, g4, g12, g13, g14, LT5, lt5, o1, o2, o3, hsm])
    have hus := upto_succ (rootLines m) i
    have hfi : rootLines m i = tellF m 4 ((rootsR m).getD i 0) (weightF m ((rootsR m).getD i 0)) ⟨#[]⟩ := rfl
    have hpre : (upto (rootLines m) (i + 1)).length ≤ (upto (rootLines m) (rootsR m).length).length := by
      obtain ⟨r, hr⟩ := upto_split (rootLines m) (show i + 1 ≤ (rootsR m).length from hlt)
      rw [hr, List.length_append]
      omega
    rw [hus, List.length_append] at hpre
    refine (tell_x (fun b hb => hF b hb) (by omega) (by omega) (by omega) hok hg 4 ((rootsR m).getD i 0) (weightF m ((rootsR m).getD i 0)) ⟨#[]⟩ (by exact hbk) (by decide) (hvr.i64 i hlt) (sumW_i64 _) hw5 hpo5 ho5 (by rw [← hfi]; omega)).mono ?_
    rintro _ h6 ⟨rfl, s6, fr6, hpo6, ho6⟩
    simp only [core, Nat.reduceAdd, Nat.reduceSub, Nat.reduceMul, Nat.reduceLT, Nat.reduceEqDiff, reduceCtorEq, Nat.reduceLeDiff, Int.reduceLE, Int.reduceLT, Int.reduceToNat, hn, g1, g3, g4, g12, g13, g14, hws]
    refine ih _ _ ⟨⟨s6, (fr.trans (FrS.ext e5)).trans fr6, hpo6, by rw [hus, hfi]; exact ho6⟩, ?_⟩
    simp only [core, Nat.reduceAdd, Nat.reduceSub, Nat.reduceMul, Nat.reduceLT, Nat.reduceEqDiff, reduceCtorEq, Nat.reduceLeDiff, Int.reduceLE, Int.reduceLT, Int.reduceToNat, hn, g1, g3, g4, g12, g13, g14]
  · rintro t h hc ⟨⟨s', fr, hpo', ho'⟩, hn, g1, g3, g4, g12, g13, g14⟩
    have LO := ld_at (T := tabOf Tryd.prog NT0) hpo'
    have lo := at_lt hpo'
    have v2 := (ho'.toSl (F := fun _ => True) (fun _ _ => trivial) (fun _ _ => trivial)).one
    simp only [core, Nat.reduceAdd, Nat.reduceSub, Nat.reduceMul, Nat.reduceLT, Nat.reduceEqDiff, reduceCtorEq, Nat.reduceLeDiff, Int.reduceLE, Int.reduceLT, Int.reduceToNat, hn, g1, g3, g4, g12, g13, g14, hc, LO, lo, v2]
    refine ⟨⟨by have := fr.1; have := E4.1; omega, fun b hb => ((fr.2 b (by omega) (by omega) (fun _ _ _ hh => by cases hh)).1).trans (E4.2 b hb)⟩, ?_⟩
    exact ho'.toSl (fun _ hf => hf.elim) (fun b hb => by omega)
  · refine ⟨⟨.lit (.slice none 0 0), FrS.refl, O4, OwnL.nil⟩, ?_⟩
    simp only [core, Nat.reduceAdd, Nat.reduceSub, Nat.reduceMul, Nat.reduceLT, Nat.reduceEqDiff, reduceCtorEq, Nat.reduceLeDiff, Int.reduceLE, Int.reduceLT, Int.reduceToNat, r1, r2]
    rfl
end Go.Proofs.YtkgbeihcepociaaDoor.Ex
end

section

set_option linter.unusedSimpArgs false
set_option linter.unusedVariables false
namespace Go.Proofs.YtkgbeihcepociaaDoor.Ex
open Go
theorem IsSl.ofAt {α : Type} {R : Rep α} {F : Nat → Prop} {h : AH} {p : Nat} {e : TypeId} {L : List (List AV)} {xs : List α} {n : Nat} (hat : h.at p = some (.cells L.flatten e)) (hF : F p) (he : Els R F h L xs) (hn : xs.length = n) : IsSl R F h (.sl p 0 n (.kn n)) xs := by
  subst hn
  have hl := flat_len (z := R.z) he.lens
  refine .mk ⟨he.lens, .inr ⟨p, 0, .kn xs.length, L.flatten, by rw [he.1], by unfold getR; rw [hat], ?_⟩⟩ (fun b off n cap e => by cases e; exact hF) (fun b off n cap e => by cases e; exact Nat.le_refl _) he
  unfold cut
  rw [if_pos (by rw [hl]; omega), List.drop_zero, ← hl, List.take_length]
def pushL (h : AH) : List AB → AH
  | [] => h
  | x :: r => pushL (h.push x) r
theorem pushL_ext : ∀ {l : List AB} {h : AH} {n0 : Nat}, n0 ≤ h.n → Ext n0 h (pushL h l)
  | [], h, n0, _ => Ext.refl _ _
  | x :: r, h, n0, hn => ((Ext.refl _ _).push x hn).trans (pushL_ext (by rw [n_push]; omega))
theorem pushL_at : ∀ {l : List AB} {h : AH} {i : Nat} {x : AB}, l[i]? = some x → (pushL h l).at (h.n + i) = some x
  | y :: r, h, 0, x, e => by
    cases e
    exact ((pushL_ext (l := r) (Nat.le_refl (h.push y).n)).2 _ (by rw [n_push]; omega)).trans (at_push_n _ _)
  | y :: r, h, i + 1, x, e => by
    have := pushL_at (l := r) (h := h.push y) (i := i) (x := x) e
    rw [n_push] at this
    rw [show h.n + (i + 1) = h.n + 1 + i by omega]
    exact this
end Go.Proofs.YtkgbeihcepociaaDoor.Ex
end
