/- Part 9 of the proof: Mpc, Chk, Ck2, Rtc, Rtp, Wd8, Tel, Tk. -/
import Derived.Lib.ItoaLen
import Derived.Test.YtkgbeihcepociaaDoorM8
section

set_option linter.unusedSimpArgs false
set_option linter.unusedVariables false
set_option maxRecDepth 10000
set_option maxHeartbeats 4000000
namespace Go.Proofs.YtkgbeihcepociaaDoor.Ex
open Go
/-- A map whose keys are these, each with 1. -/
def Ones (es : List AE) (ks : List Int) : Prop := es.map (fun e => (e.key, e.val)) = ks.map (fun k => (.int .i64 k, .lit (.int .i64 1)))
theorem findA_int (d : Int) : ∀ (ks : List Int) (es : List AE) (i : Nat), Ones es ks → (d ∉ ks → findA (.int .i64) (.int .i64 d) es i = some none) ∧ (d ∈ ks → ∃ j, j < es.length ∧ findA (.int .i64) (.int .i64 d) es i = some (some (i + j, .lit (.int .i64 1))) ∧ ∀ x, findA (.int .i64) (.int .i64 d) (es.modify j fun e => { e with key := .int .i64 d, val := x }) i = some (some (i + j, x)))
  | [], es, i, h => by
    have : es = [] := by unfold Ones at h; simpa using h
    subst this
    exact ⟨fun _ => rfl, fun h => by cases h⟩
  | k :: ks, es, i, h => by
    cases es with
    | nil => unfold Ones at h; simp at h
    | cons e es =>
    unfold Ones at h
    simp only [List.map_cons, List.cons.injEq, Prod.mk.injEq] at h
    obtain ⟨⟨h1, h2⟩, h3⟩ := h
    obtain ⟨r1, r2⟩ := findA_int d ks es (i + 1) h3
    have hs : Instr.sameNow (.int .i64) (.int .i64 d) e.key = some (d == k) := by rw [h1]; rfl
    have hd : Instr.sameNow (.int .i64) (.int .i64 d) (.int .i64 d) = some (d == d) := rfl
    by_cases hk : d = k
    · subst hk
      refine ⟨fun hn => absurd (List.mem_cons_self ..) hn, fun _ => ⟨0, by simp, ?_, fun x => ?_⟩⟩
      · unfold findA
        rw [hs, beq_self_eq_true, h2]
        rfl
      · simp only [List.modify_zero_cons]
        unfold findA
        simp only [hd, beq_self_eq_true]
        rfl
    · have hkb : (d == k) = false := by simpa using hk
      refine ⟨fun hn => ?_, fun hm => ?_⟩
      · unfold findA
        rw [hs, hkb]
        exact r1 (fun hh => hn (List.mem_cons_of_mem _ hh))
      · obtain ⟨j, hj, q1, q2⟩ := r2 (by rcases List.mem_cons.1 hm with h | h; exact absurd h hk; exact h)
        refine ⟨j + 1, by simpa using hj, ?_, fun x => ?_⟩
        · unfold findA
          rw [hs, hkb]
          simp only
          rw [q1]
          congr 3
          omega
        · rw [List.modify_succ_cons]
          unfold findA
          rw [hs, hkb]
          simp only
          rw [q2 x]
          congr 3
          omega
theorem Ones.snoc {es : List AE} {ks : List Int} {k : Int} {c : Nat} (h : Ones es ks) : Ones (es ++ [{ key := .int .i64 k, val := .lit (.int .i64 1), born := c }]) (ks ++ [k]) := by
  unfold Ones at *
  rw [List.map_append, List.map_append, h]
  rfl
section
variable {P : Program} {T : TT} {t : TM} {h : AH} {d : Option Tmp} {ty e : TypeId} {ps : String} {af : Array Edge} {g : Option (Nat × Bool)}
theorem a_mkm : aop P T ⟨d, .makeMap e none, ty, ps, af, g⟩ t h = some (.val (.mp h.n), h.push (.map [] 0)) := rfl
theorem a_look {m k : Operand} {ok : Bool} : aop P T ⟨d, .lookup e m k ok, ty, ps, af, g⟩ t h = aLookup T t h e m k ok := rfl
theorem a_mupd {m k x : Operand} : aop P T ⟨d, .mapUpdate e m k x, ty, ps, af, g⟩ t h = aUpdate T t h e m k x := rfl
end
section
variable {T : TT} {t kt et : TypeId} {h : AH} {b : Nat} {es : List AE} {c : Nat} {ks : List Int} {d : Int}
theorem findT_int (hu : und T t = some (.map kt et)) (hi : und T kt = some (.int .i64)) : findT T t (.int .i64 d) es = findA (.int .i64) (.int .i64 d) es 0 := by
  unfold findT
  rw [hu]
  simp only
  unfold und at hi
  cases hT : T kt with
  | none => rw [hT] at hi; cases hi
  | some i =>
    rw [hT] at hi
    simp only [Option.map_some, Option.some.injEq] at hi
    simp only [hi]
    rfl
theorem look_new (hu : und T t = some (.map kt et)) (hi : und T kt = some (.int .i64)) (hz : zeroT T et = some (.lit (.int .i64 0))) (hb : h.at b = some (.map es c)) (ho : Ones es ks) (hd : d ∉ ks) :
    lookupA T h t (.mp b) (.lit (.int .i64 d)) false = some (.lit (.int .i64 0)) := by
  unfold lookupA
  simp only [keyOf, entsA, hb, elemT, hu, findT_int hu hi, (findA_int d ks es 0 ho).1 hd, hz]
  rfl
theorem look_old (hu : und T t = some (.map kt et)) (hi : und T kt = some (.int .i64)) (hz : zeroT T et = some (.lit (.int .i64 0))) (hb : h.at b = some (.map es c)) (ho : Ones es ks) (hd : d ∈ ks) :
    lookupA T h t (.mp b) (.lit (.int .i64 d)) false = some (.lit (.int .i64 1)) := by
  obtain ⟨j, hj, q1, q2⟩ := (findA_int d ks es 0 ho).2 hd
  unfold lookupA
  simp only [keyOf, entsA, hb, elemT, hu, findT_int hu hi, q1, hz]
  rfl
theorem upd_new {x : AV} (hu : und T t = some (.map kt et)) (hi : und T kt = some (.int .i64)) (hb : h.at b = some (.map es c)) (ho : Ones es ks) (hd : d ∉ ks) :
    updateA T h t (.mp b) (.lit (.int .i64 d)) x = some (h.put b (.map (es ++ [{ key := .int .i64 d, val := x, born := c }]) (c + 1))) := by
  unfold updateA
  simp only [keyOf, hb, findT_int hu hi, (findA_int d ks es 0 ho).1 hd]
theorem upd_old {x : AV} (hu : und T t = some (.map kt et)) (hi : und T kt = some (.int .i64)) (hz : zeroT T et = some (.lit (.int .i64 0))) (hb : h.at b = some (.map es c)) (ho : Ones es ks) (hd : d ∈ ks) :
    ∃ es', updateA T h t (.mp b) (.lit (.int .i64 d)) x = some (h.put b (.map es' c)) ∧ ∀ h', h'.at b = some (.map es' c) → lookupA T h' t (.mp b) (.lit (.int .i64 d)) false = some x := by
  obtain ⟨j, hj, q1, q2⟩ := (findA_int d ks es 0 ho).2 hd
  refine ⟨es.modify (0 + j) fun e => { e with key := .int .i64 d, val := x }, ?_, fun h' hb' => ?_⟩
  · unfold updateA
    simp only [keyOf, hb, findT_int hu hi, q1]
  · unfold lookupA
    rw [Nat.zero_add] at hb'
    simp only [keyOf, entsA, hb', elemT, hu, findT_int hu hi, q2 x, hz]
    rfl
/-- What a new key gives, and the next look. -/
theorem look_put {cc : Nat} (hu : und T t = some (.map kt et)) (hi : und T kt = some (.int .i64)) (hz : zeroT T et = some (.lit (.int .i64 0))) (ho : Ones es ks) (hb : h.at b = some (.map (es ++ [{ key := .int .i64 d, val := .lit (.int .i64 1), born := c }]) cc)) :
    lookupA T h t (.mp b) (.lit (.int .i64 d)) false = some (.lit (.int .i64 1)) :=
  look_old hu hi hz hb ho.snoc (List.mem_append.2 (.inr (List.mem_cons_self ..)))
end
end Go.Proofs.YtkgbeihcepociaaDoor.Ex
end

section

set_option linter.unusedSimpArgs false
set_option linter.unusedVariables false
set_option maxRecDepth 10000
set_option maxHeartbeats 4000000
namespace Go.Proofs.YtkgbeihcepociaaDoor.Ex
open Go
def itemC (m : MapD) (its : List Int) (b : BktD) (k : Nat) : Bool := !((its ++ b.items.take k).contains (b.items.getD k 0)) && fitF m b (b.items.getD k 0) && wOk (b.weights.getD k 0)
def bC (m : MapD) (i : Nat) (b : BktD) : Bool := hdOk m i b && (List.range b.items.length).all (itemC m (itsTo m i) b)
def checkF (m : MapD) : Bool := decide (0 ≤ m.leaf) && decide (m.leaf ≤ 3) && (List.range m.buckets.length).all (fun i => bC m i (m.buckets.getD i bkt0))
theorem check_false {m : MapD} {i : Nat} {x : BktD} (hx : m.buckets[i]? = some x) (h : bC m i x = false) : checkF m = false := by
  unfold checkF
  rw [range_all_false (i := i) (List.getElem?_eq_some_iff.1 hx).1 (by simp only [getD_of hx]; exact h), Bool.and_false]
def errC (m : MapD) : Int := if checkF m then 0 else 22
theorem check_x {F : Nat → Prop} {H : AH} {m : MapD} {vo vp vb : AV} (hm : MpAt F H m vo vp vb) (hok : OkM m) :
    WC Tryd.prog (tabOf Tryd.prog NT0) S0 16 [mpV m vo vp vb] H fun r h' => Ext H.n H h' ∧ r = .lit (.int .i64 (errC m)) := by
  refine WC_fn Tryd.func16 rfl rfl ?_
  obtain ⟨hl, hbs, hit⟩ := hok
  have hl0 := hl
  unfold Sm at hl
  have s1 := hm.b.isSl
  have s2 := hm.b.lenD
  have o1 := hm.o.one
  have o2 := hm.p.one
  have o3 := hm.b.one
  have hcap : CapOk 4 vb := by obtain ⟨L, -, -, hc, -⟩ := hm.b.out; exact hc
  have EP : ∀ x, Ext H.n H (H.push x) := fun x => (Ext.refl _ _).push _ (Nat.le_refl _)
  have hbad0 : ∀ h', Ext H.n H h' → checkF m = false → Ext H.n H h' ∧ AV.lit (.int .i64 22) = .lit (.int .i64 (errC m)) := fun h' e hf => ⟨e, by unfold errC; rw [hf]; rfl⟩
  simp only [core, Nat.reduceAdd, Nat.reduceSub, Nat.reduceMul, Nat.reduceLT, Nat.reduceEqDiff, reduceCtorEq, Nat.reduceLeDiff, Int.reduceLE, Int.reduceLT, Int.reduceToNat, Tryd.ntmps16, mpV, o1, o2, o3]
  by_cases hl1 : m.leaf < 0
  · simp only [core, Nat.reduceAdd, Nat.reduceSub, Nat.reduceMul, Nat.reduceLT, Nat.reduceEqDiff, reduceCtorEq, Nat.reduceLeDiff, Int.reduceLE, Int.reduceLT, Int.reduceToNat, hl1]
    refine hbad0 _ (EP _) ?_
    unfold checkF
    rw [decide_eq_false (show ¬ 0 ≤ m.leaf by omega)]
    rfl
  by_cases hl2 : 3 < m.leaf
  · simp only [core, Nat.reduceAdd, Nat.reduceSub, Nat.reduceMul, Nat.reduceLT, Nat.reduceEqDiff, reduceCtorEq, Nat.reduceLeDiff, Int.reduceLE, Int.reduceLT, Int.reduceToNat, hl1, hl2]
    refine hbad0 _ (EP _) ?_
    unfold checkF
    rw [decide_eq_false (show ¬ m.leaf ≤ 3 by omega), Bool.and_false]
    rfl
  have hg0 : checkF m = (List.range m.buckets.length).all (fun i => bC m i (m.buckets.getD i bkt0)) := by
    unfold checkF
    rw [decide_eq_true (show 0 ≤ m.leaf by omega), decide_eq_true (show m.leaf ≤ 3 by omega)]
    rfl
  simp only [core, Nat.reduceAdd, Nat.reduceSub, Nat.reduceMul, Nat.reduceLT, Nat.reduceEqDiff, reduceCtorEq, Nat.reduceLeDiff, Int.reduceLE, Int.reduceLT, Int.reduceToNat, a_mkm, hl1, hl2, s1, s2]
  obtain ⟨h1, hh1⟩ : ∃ h1, h1 = (H.push (.cells [.lit (.int .i64 m.epoch), vo, vp, vb, .lit (.int .i64 m.leaf)] 26)).push (.map [] 0) := ⟨_, rfl⟩
  have E0 : Ext H.n H h1 := hh1 ▸ (EP _).push _ (by rw [n_push]; omega)
  have A0 : h1.at H.n = some (.cells [.lit (.int .i64 m.epoch), vo, vp, vb, .lit (.int .i64 m.leaf)] 26) := by
    rw [hh1, at_push_lt _ (by rw [n_push]; omega)]
    exact at_push_n _ _
  have M0 : h1.at (H.n + 1) = some (.map [] 0) := by
    rw [hh1]
    have := at_push_n (H.push (.cells [.lit (.int .i64 m.epoch), vo, vp, vb, .lit (.int .i64 m.leaf)] 26)) (.map [] 0)
    rw [n_push] at this
    exact this
  have n1 : h1.n = H.n + 2 := by rw [hh1, n_push, n_push]
  rw [← hh1]
  clear hh1
  refine WB_for m.buckets.length (fun i t h => ∃ es c, h.at (H.n + 1) = some (.map es c) ∧ Ones es (itsTo m i) ∧ Ext H.n H h ∧ h.at H.n = some (.cells [.lit (.int .i64 m.epoch), vo, vp, vb, .lit (.int .i64 m.leaf)] 26) ∧ (List.range i).all (fun i => bC m i (m.buckets.getD i bkt0)) = true ∧ t.n = 105 ∧ t.get 1 = .ptr H.n 0 ∧ t.get 3 = .mp (H.n + 1) ∧ t.get 20 = vb ∧ t.get 21 = .lit (.int .i64 m.buckets.length) ∧ t.get 22 = .lit (.int .i64 i)) ?_ ?_ _ _ ?_
  · rintro i t h hlt hc ⟨es, cl, M1, ho, E1, A1, hall, hn, g1, g3, g20, g21, g22⟩ ih
    obtain ⟨x, hx⟩ : ∃ x, m.buckets[i]? = some x := ⟨_, List.getElem?_eq_getElem hlt⟩
    obtain ⟨c, hc1, hld, hld0⟩ := hm.b.atE (T := tabOf Tryd.prog NT0) E1 RBkt_z hx
    obtain ⟨va, vw, rfl, ha, hw, i1, i2⟩ := RBkt_is.1 hc1
    obtain ⟨k1, k2⟩ := hbs x (List.mem_of_getElem? hx)
    unfold Sm at k1 k2
    have a1 := ha.one
    have w1 := hw.one
    have a2 := ha.isSl
    have w2 := hw.isSl
    have a3 := ha.lenD
    have w3 := hw.lenD
    have hws := wrap_succ hlt (by omega)
    have l1 : H.n < h.n := at_lt A1
    have lm : H.n + 1 < h.n := at_lt M1
    have LA1 := ld_at (T := tabOf Tryd.prog NT0) A1
    have hno : i ≤ m.buckets.length := by omega
    have hno2 : (i : Int) ≤ (m.buckets.length : Int) := by omega
    have hsub : IsSl RBkt F H (subSl 4 0 i vb) (m.buckets.take i) := by have := hm.b.sub (l := 0) (r := i) (by omega) hno; rw [List.drop_zero] at this; exact this
    have s3 := hsub.isSl
    have s4 : lenD (subSl 4 0 i vb) = i := by rw [hsub.lenD, List.length_take]; omega
    have hbk : bC m i x = (hdOk m i x && (List.range x.items.length).all (itemC m (itsTo m i) x)) := rfl
    have hbad : ∀ h', Ext H.n H h' → bC m i x = false → Ext H.n H h' ∧ AV.lit (.int .i64 22) = .lit (.int .i64 (errC m)) := fun h' e hf => hbad0 _ e (check_false hx hf)
    obtain ⟨hA, hhA⟩ : ∃ hA, hA = h.push (.cells [.lit (.int .i64 x.id), .lit (.int .i64 x.kind), va, vw] 47) := ⟨_, rfl⟩
    have EA : Ext h.n h hA := hhA ▸ (Ext.refl _ _).push _ (Nat.le_refl _)
    have PA : hA.at h.n = some (.cells [.lit (.int .i64 x.id), .lit (.int .i64 x.kind), va, vw] 47) := hhA ▸ at_push_n h _
    have AA := (EA.2 _ l1).trans A1
    have LAA := ld_at (T := tabOf Tryd.prog NT0) AA
    have lA := at_lt AA
    have LPA := ld_at (T := tabOf Tryd.prog NT0) PA
    have lPA := at_lt PA
    have EHA := E1.step EA
    by_cases c1 : 0 ≤ x.id
    · simp only [core, Nat.reduceAdd, Nat.reduceSub, Nat.reduceMul, Nat.reduceLT, Nat.reduceEqDiff, reduceCtorEq, Nat.reduceLeDiff, Int.reduceLE, Int.reduceLT, Int.reduceToNat, s1, s2, hn, g1, g3, g20, g21, g22, hlt, hc, hld, hld0, a1, w1, ← hhA, LPA, lPA, c1]
      refine hbad _ EHA ?_
      rw [hbk]; unfold hdOk
      rw [decide_eq_false (show ¬ x.id < 0 by omega)]; simp
    by_cases c2 : x.kind < 1
    · simp only [core, Nat.reduceAdd, Nat.reduceSub, Nat.reduceMul, Nat.reduceLT, Nat.reduceEqDiff, reduceCtorEq, Nat.reduceLeDiff, Int.reduceLE, Int.reduceLT, Int.reduceToNat, s1, s2, hn, g1, g3, g20, g21, g22, hlt, hc, hld, hld0, a1, w1, ← hhA, LPA, lPA, c1, c2]
      refine hbad _ EHA ?_
      rw [hbk]; unfold hdOk
      rw [decide_eq_false (show ¬ 1 ≤ x.kind by omega)]; simp
    by_cases c3 : 3 < x.kind
    · simp only [core, Nat.reduceAdd, Nat.reduceSub, Nat.reduceMul, Nat.reduceLT, Nat.reduceEqDiff, reduceCtorEq, Nat.reduceLeDiff, Int.reduceLE, Int.reduceLT, Int.reduceToNat, s1, s2, hn, g1, g3, g20, g21, g22, hlt, hc, hld, hld0, a1, w1, ← hhA, LPA, lPA, c1, c2, c3]
      refine hbad _ EHA ?_
      rw [hbk]; unfold hdOk
      rw [decide_eq_false (show ¬ x.kind ≤ 3 by omega)]; simp
    simp only [core, Nat.reduceAdd, Nat.reduceSub, Nat.reduceMul, Nat.reduceLT, Nat.reduceEqDiff, reduceCtorEq, Nat.reduceLeDiff, Int.reduceLE, Int.reduceLT, Int.reduceToNat, s1, s2, hn, g1, g3, g20, g21, g22, hlt, hc, hld, hld0, a1, w1, ← hhA, LPA, lPA, c1, c2, c3, a2, w2, a3, w3]
    refine ⟨fun hq => ?_, fun hq => ?_⟩
    · refine hbad _ EHA ?_
      rw [hbk]; unfold hdOk
      have : ¬ x.items.length = x.weights.length := by simp at hq; omega
      simp [this]
    have hlen : x.items.length = x.weights.length := by simp at hq; omega
    simp only [core, Nat.reduceAdd, Nat.reduceSub, Nat.reduceMul, Nat.reduceLT, Nat.reduceEqDiff, reduceCtorEq, Nat.reduceLeDiff, Int.reduceLE, Int.reduceLT, Int.reduceToNat, s1, s2, hn, g1, g3, g20, g21, g22, LAA, lA, hcap, hno, hno2, s3, s4]
    have MA : hA.at (H.n + 1) = some (.map es cl) := (EA.2 _ lm).trans M1
    refine WB_for i (fun j t h' => Ext hA.n hA h' ∧ (m.buckets.take j).any (fun c => c.id == x.id) = false ∧ t.n = 105 ∧ t.get 1 = .ptr H.n 0 ∧ t.get 3 = .mp (H.n + 1) ∧ t.get 4 = .lit (.int .i64 i) ∧ t.get 5 = .ptr h.n 0 ∧ t.get 20 = vb ∧ t.get 21 = .lit (.int .i64 m.buckets.length) ∧ t.get 22 = .lit (.int .i64 i) ∧ t.get 52 = subSl 4 0 i vb ∧ t.get 53 = .lit (.int .i64 i) ∧ t.get 54 = .lit (.int .i64 j)) ?_ ?_ _ _ ?_
    · rintro j t h' hj hc ⟨he2, hany, hn, g1, g3, g4, g5, g20, g21, g22, g52, g53, g54⟩ ih2
      have hjl : j < m.buckets.length := by omega
      obtain ⟨y, hy⟩ : ∃ y, m.buckets[j]? = some y := ⟨_, List.getElem?_eq_getElem hjl⟩
      have hy2 : (m.buckets.take i)[j]? = some y := by rw [List.getElem?_take, if_pos hj, hy]
      have E2 : Ext H.n H h' := EHA.step he2
      obtain ⟨c, hc1, hld, hld0⟩ := hsub.atE (T := tabOf Tryd.prog NT0) E2 RBkt_z hy2
      obtain ⟨ya, yw, rfl, ya1, yw1, -, -⟩ := RBkt_is.1 hc1
      have y1 := ya1.one
      have y2 := yw1.one
      have hws := wrap_succ hj (by omega)
      have P2 := (he2.2 _ lPA).trans PA
      have LP2 := ld_at (T := tabOf Tryd.prog NT0) P2
      have l2 : h.n < h'.n := at_lt P2
      simp only [core, Nat.reduceAdd, Nat.reduceSub, Nat.reduceMul, Nat.reduceLT, Nat.reduceEqDiff, reduceCtorEq, Nat.reduceLeDiff, Int.reduceLE, Int.reduceLT, Int.reduceToNat, s1, s2, s3, s4, hn, g1, g3, g4, g5, g20, g21, g22, g52, g53, g54, hj, hc, hld, hld0, hws, y1, y2, LP2, l2]
      refine ⟨fun hq => ?_, fun hq => ?_⟩
      · refine hbad _ (E2.push _ E2.1) ?_
        rw [hbk]
        unfold hdOk
        rw [any_true' hy2 hq]
        rfl
      · refine ih2 _ _ ⟨he2.push _ he2.1, ?_, ?_⟩
        · rw [any_take hy, hany]
          simpa using hq
        · simp only [core, Nat.reduceAdd, Nat.reduceSub, Nat.reduceMul, Nat.reduceLT, Nat.reduceEqDiff, reduceCtorEq, Nat.reduceLeDiff, Int.reduceLE, Int.reduceLT, Int.reduceToNat, hn, g1, g3, g4, g5, g20, g21, g22, g52, g53, g54]
    · rintro t h' hc ⟨he2, hany, hn, g1, g3, g4, g5, g20, g21, g22, g52, g53, g54⟩
      have E2 : Ext H.n H h' := EHA.step he2
      have P2 := (he2.2 _ lPA).trans PA
      have LP2 := ld_at (T := tabOf Tryd.prog NT0) P2
      have l2 : h.n < h'.n := at_lt P2
      have A2 := (he2.2 _ lA).trans AA
      have M2 := (he2.2 _ (at_lt MA)).trans MA
      have hhd : hdOk m i x = true := by
        unfold hdOk
        rw [hany, decide_eq_true (show x.id < 0 by omega), decide_eq_true (show 1 ≤ x.kind by omega), decide_eq_true (show x.kind ≤ 3 by omega)]
        simp [hlen]
      rw [hhd, Bool.true_and] at hbk
      simp only [core, Nat.reduceAdd, Nat.reduceSub, Nat.reduceMul, Nat.reduceLT, Nat.reduceEqDiff, reduceCtorEq, Nat.reduceLeDiff, Int.reduceLE, Int.reduceLT, Int.reduceToNat, s1, s2, s3, s4, hn, g1, g3, g4, g5, g20, g21, g22, g52, g53, g54, hc, LP2, l2, a2, a3]
      refine WB_for x.items.length (fun k t h3 => ∃ es c, h3.at (H.n + 1) = some (.map es c) ∧ Ones es (itsTo m i ++ x.items.take k) ∧ Ext H.n H h3 ∧ h3.at H.n = some (.cells [.lit (.int .i64 m.epoch), vo, vp, vb, .lit (.int .i64 m.leaf)] 26) ∧ h3.at h.n = some (.cells [.lit (.int .i64 x.id), .lit (.int .i64 x.kind), va, vw] 47) ∧ (List.range k).all (itemC m (itsTo m i) x) = true ∧ t.n = 105 ∧ t.get 1 = .ptr H.n 0 ∧ t.get 3 = .mp (H.n + 1) ∧ t.get 5 = .ptr h.n 0 ∧ t.get 20 = vb ∧ t.get 21 = .lit (.int .i64 m.buckets.length) ∧ t.get 22 = .lit (.int .i64 i) ∧ t.get 65 = va ∧ t.get 66 = .lit (.int .i64 x.items.length) ∧ t.get 67 = .lit (.int .i64 k)) ?_ ?_ _ _ ?_
      · rintro k t h3 hk hc ⟨es, cl, M3, ho3, E3, A3, P3, hkall, hn, g1, g3, g5, g20, g21, g22, g65, g66, g67⟩ ih4
        have hlda := (ha.ext E3 (Nat.le_refl _)).int (T := tabOf Tryd.prog NT0) (e := 3) (by kernel_rfl) (by kernel_rfl) hk
        have hws := wrap_succ hk (by omega)
        have lm3 := at_lt M3
        have l3 := at_lt A3
        have lp3 := at_lt P3
        obtain ⟨d, hd⟩ : ∃ d, d = x.items.getD k 0 := ⟨_, rfl⟩
        have hu : und (tabOf Tryd.prog NT0) 64 = some (.map 3 3) := by kernel_rfl
        have hi : und (tabOf Tryd.prog NT0) 3 = some (.int .i64) := by kernel_rfl
        have hz : zeroT (tabOf Tryd.prog NT0) 3 = some (.lit (.int .i64 0)) := by kernel_rfl
        have w01 : IntKind.i64.wrap (0 + 1) = 1 := by decide
        have w11 : IntKind.i64.wrap (1 + 1) = 2 := by decide
        rw [← hd] at hlda
        by_cases hmem : d ∈ itsTo m i ++ x.items.take k
        · have hL := look_old hu hi hz M3 ho3 hmem
          obtain ⟨es', hU, hL2⟩ := upd_old (x := .lit (.int .i64 2)) hu hi hz M3 ho3 hmem
          obtain ⟨h4, hh4⟩ : ∃ h4, h4 = h3.put (H.n + 1) (.map es' cl) := ⟨_, rfl⟩
          have E4 : Ext H.n H h4 := hh4 ▸ E3.put _ (by omega)
          have hL4 := hL2 h4 (by rw [hh4]; exact at_put_same _ lm3)
          rw [← hh4] at hU
          simp only [core, Nat.reduceAdd, Nat.reduceSub, Nat.reduceMul, Nat.reduceLT, Nat.reduceEqDiff, reduceCtorEq, Nat.reduceLeDiff, Int.reduceLE, Int.reduceLT, Int.reduceToNat, hn, g1, g3, g5, g20, g21, g22, g65, g66, g67, hc, hk, hlda, a2, a3, a_look, aLookup, a_mupd, aUpdate, hL, hU, hL4, w11]
          refine hbad _ E4 ?_
          rw [hbk, range_all_false hk ?_]
          unfold itemC
          rw [← hd, List.contains_iff_mem.2 hmem]
          rfl
        have hL := look_new hu hi hz M3 ho3 hmem
        have hU := upd_new (x := .lit (.int .i64 1)) hu hi M3 ho3 hmem
        obtain ⟨h4, hh4⟩ : ∃ h4, h4 = h3.put (H.n + 1) (.map (es ++ [{ key := .int .i64 d, val := .lit (.int .i64 1), born := cl }]) (cl + 1)) := ⟨_, rfl⟩
        have E4 : Ext H.n H h4 := hh4 ▸ E3.put _ (by omega)
        have M4 : h4.at (H.n + 1) = some (.map (es ++ [{ key := .int .i64 d, val := .lit (.int .i64 1), born := cl }]) (cl + 1)) := by rw [hh4]; exact at_put_same _ lm3
        have hL4 := look_put hu hi hz ho3 M4
        rw [← hh4] at hU
        have hne : H.n + 1 ≠ h.n := by omega
        have A4 := A3
        rw [← at_put_ne (.map (es ++ [{ key := .int .i64 d, val := .lit (.int .i64 1), born := cl }]) (cl + 1)) (show H.n + 1 ≠ H.n by omega), ← hh4] at A4
        have P4 := P3
        rw [← at_put_ne (.map (es ++ [{ key := .int .i64 d, val := .lit (.int .i64 1), born := cl }]) (cl + 1)) hne, ← hh4] at P4
        have l4 := at_lt A4
        have lp4 := at_lt P4
        have LA4 := ld_at (T := tabOf Tryd.prog NT0) A4
        have LP4 := ld_at (T := tabOf Tryd.prog NT0) P4
        simp only [core, Nat.reduceAdd, Nat.reduceSub, Nat.reduceMul, Nat.reduceLT, Nat.reduceEqDiff, reduceCtorEq, Nat.reduceLeDiff, Int.reduceLE, Int.reduceLT, Int.reduceToNat, hn, g1, g3, g5, g20, g21, g22, g65, g66, g67, hc, hk, hlda, a2, a3, a_look, aLookup, a_mupd, aUpdate, hL, hU, hL4, w01, LA4, l4, LP4, lp4]
        refine (may_x (b := x) d (hm.ext E4 (Nat.le_refl _)) hl0 hbs a1 w1).mono ?_
        rintro _ h5 ⟨e5, rfl⟩
        have E5 := E4.step e5
        have A5 := (e5.2 _ l4).trans A4
        have P5 := (e5.2 _ lp4).trans P4
        have M5 := (e5.2 _ (at_lt M4)).trans M4
        have lp5 := at_lt P5
        have LP5 := ld_at (T := tabOf Tryd.prog NT0) P5
        have hcon : (itsTo m i ++ x.items.take k).contains d = false := by
          cases hcc : (itsTo m i ++ x.items.take k).contains d with
          | false => rfl
          | true => exact absurd (List.contains_iff_mem.1 hcc) hmem
        have hit : itemC m (itsTo m i) x k = (fitF m x d && wOk (x.weights.getD k 0)) := by
          unfold itemC
          rw [← hd, hcon]
          rfl
        cases hfit : fitF m x d with
        | false =>
          simp only [core, Nat.reduceAdd, Nat.reduceSub, Nat.reduceMul, Nat.reduceLT, Nat.reduceEqDiff, reduceCtorEq, Nat.reduceLeDiff, Int.reduceLE, Int.reduceLT, Int.reduceToNat, hn, g1, g3, g5, g20, g21, g22, g65, g66, g67]
          refine hbad _ E5 ?_
          rw [hbk, range_all_false hk (by rw [hit, hfit]; rfl)]
        | true =>
        rw [hfit, Bool.true_and] at hit
        have hkw : k < x.weights.length := by omega
        have hldw := (hw.ext E5 (Nat.le_refl _)).int (T := tabOf Tryd.prog NT0) (e := 3) (by kernel_rfl) (by kernel_rfl) hkw
        by_cases d1 : x.weights.getD k 0 < 0
        · simp only [core, Nat.reduceAdd, Nat.reduceSub, Nat.reduceMul, Nat.reduceLT, Nat.reduceEqDiff, reduceCtorEq, Nat.reduceLeDiff, Int.reduceLE, Int.reduceLT, Int.reduceToNat, hn, g1, g3, g5, g20, g21, g22, g65, g66, g67, LP5, lp5, w2, w3, hkw, hldw, d1]
          refine hbad _ E5 ?_
          rw [hbk, range_all_false hk (by rw [hit]; unfold wOk; rw [decide_eq_false (by omega)]; rfl)]
        by_cases d2 : 1048576 < x.weights.getD k 0
        · simp only [core, Nat.reduceAdd, Nat.reduceSub, Nat.reduceMul, Nat.reduceLT, Nat.reduceEqDiff, reduceCtorEq, Nat.reduceLeDiff, Int.reduceLE, Int.reduceLT, Int.reduceToNat, hn, g1, g3, g5, g20, g21, g22, g65, g66, g67, LP5, lp5, w2, w3, hkw, hldw, d1, d2]
          refine hbad _ E5 ?_
          rw [hbk, range_all_false hk (by rw [hit]; unfold wOk; rw [decide_eq_false (show ¬ x.weights.getD k 0 ≤ 1048576 by omega), Bool.and_false])]
        simp only [core, Nat.reduceAdd, Nat.reduceSub, Nat.reduceMul, Nat.reduceLT, Nat.reduceEqDiff, reduceCtorEq, Nat.reduceLeDiff, Int.reduceLE, Int.reduceLT, Int.reduceToNat, hn, g1, g3, g5, g20, g21, g22, g65, g66, g67, LP5, lp5, w2, w3, hkw, hldw, d1, d2, hws]
        refine ih4 _ _ ⟨_, _, M5, ?_, E5, A5, P5, ?_, ?_⟩
        · rw [List.take_add_one, getD_some' 0 hk, ← hd]
          simpa using ho3.snoc (k := d)
        · rw [range_all_succ, hkall, hit]
          unfold wOk
          rw [decide_eq_true (show 0 ≤ x.weights.getD k 0 by omega), decide_eq_true (show x.weights.getD k 0 ≤ 1048576 by omega)]
          rfl
        · simp only [core, Nat.reduceAdd, Nat.reduceSub, Nat.reduceMul, Nat.reduceLT, Nat.reduceEqDiff, reduceCtorEq, Nat.reduceLeDiff, Int.reduceLE, Int.reduceLT, Int.reduceToNat, hn, g1, g3, g5, g20, g21, g22, g65, g66, g67]
      · rintro t h3 hc ⟨es, cl, M3, ho3, E3, A3, P3, hkall, hn, g1, g3, g5, g20, g21, g22, g65, g66, g67⟩
        rw [List.take_length] at ho3
        simp only [core, Nat.reduceAdd, Nat.reduceSub, Nat.reduceMul, Nat.reduceLT, Nat.reduceEqDiff, reduceCtorEq, Nat.reduceLeDiff, Int.reduceLE, Int.reduceLT, Int.reduceToNat, hn, g1, g3, g5, g20, g21, g22, g65, g66, g67, hc, hws]
        refine ih _ _ ⟨es, cl, M3, ?_, E3, A3, ?_, ?_⟩
        · rw [itsTo_succ hx]; exact ho3
        · rw [range_all_succ, hall, getD_of hx, hbk, hkall]; rfl
        · simp only [core, Nat.reduceAdd, Nat.reduceSub, Nat.reduceMul, Nat.reduceLT, Nat.reduceEqDiff, reduceCtorEq, Nat.reduceLeDiff, Int.reduceLE, Int.reduceLT, Int.reduceToNat, hn, g1, g3, g5, g20, g21, g22, g65, g66, g67]
      · refine ⟨_, _, M2, ?_, E2, A2, P2, rfl, ?_⟩
        · rw [List.take_zero, List.append_nil]; exact ho
        · simp only [core, Nat.reduceAdd, Nat.reduceSub, Nat.reduceMul, Nat.reduceLT, Nat.reduceEqDiff, reduceCtorEq, Nat.reduceLeDiff, Int.reduceLE, Int.reduceLT, Int.reduceToNat, hn, g1, g3, g4, g5, g20, g21, g22, g52, g53, g54]
          (repeat' apply And.intro) <;> first | rfl | trivial
    · simp only [core, Nat.reduceAdd, Nat.reduceSub, Nat.reduceMul, Nat.reduceLT, Nat.reduceEqDiff, reduceCtorEq, Nat.reduceLeDiff, Int.reduceLE, Int.reduceLT, Int.reduceToNat, hn, g1, g3, g20, g21, g22]
      refine ⟨Ext.refl _ _, rfl, ?_⟩
      (repeat' apply And.intro) <;> first | rfl | trivial
  · rintro t h hc ⟨es, cl, M1, ho, E1, A1, hall, hn, g1, g3, g20, g21, g22⟩
    simp only [core, Nat.reduceAdd, Nat.reduceSub, Nat.reduceMul, Nat.reduceLT, Nat.reduceEqDiff, reduceCtorEq, Nat.reduceLeDiff, Int.reduceLE, Int.reduceLT, Int.reduceToNat, s1, s2, hn, g1, g3, g20, g21, g22, hc]
    exact ⟨E1, by unfold errC; rw [hg0, hall]; rfl⟩
  · refine ⟨_, _, M0, rfl, E0, A0, rfl, ?_⟩
    simp only [core, Nat.reduceAdd, Nat.reduceSub, Nat.reduceMul, Nat.reduceLT, Nat.reduceEqDiff, reduceCtorEq, Nat.reduceLeDiff, Int.reduceLE, Int.reduceLT, Int.reduceToNat]
    (repeat' apply And.intro) <;> first | rfl | trivial
end Go.Proofs.YtkgbeihcepociaaDoor.Ex
end

section

set_option linter.unusedSimpArgs false
set_option linter.unusedVariables false
set_option maxRecDepth 10000
set_option maxHeartbeats 4000000
namespace Go.Proofs.YtkgbeihcepociaaDoor.Ex
open Go
theorem wAll {l : List Int} : l.all wOk = (List.range l.length).all (fun k => wOk (l.getD k 0)) := by
  apply Bool.eq_iff_iff.2
  rw [List.all_eq_true, List.all_eq_true]
  constructor
  · intro h k hk
    exact h _ (List.mem_of_getElem? (getD_some' 0 (List.mem_range.1 hk)))
  · intro h y hy
    obtain ⟨j, hj, hjb⟩ := List.mem_iff_getElem.1 hy
    have := h j (List.mem_range.2 hj)
    rw [List.getD_eq_getElem?_getD, List.getElem?_eq_getElem hj, hjb] at this
    exact this
theorem fit_kind {m : MapD} {b : BktD} {d : Int} (hk : ∀ c ∈ m.buckets, 1 ≤ c.kind) (hb : 1 ≤ b.kind) : fitF m b d = (decide (0 ≤ kindF m d) && decide (kindF m d < b.kind)) := by
  unfold fitF kindF
  by_cases h0 : 0 ≤ d
  · rw [if_pos h0, if_pos h0]
    by_cases h8 : d < 8
    · rw [if_pos h8, decide_eq_true h8, decide_eq_true (show (0 : Int) < b.kind by omega)]
      rfl
    · rw [if_neg h8, decide_eq_false h8]
      rfl
  · rw [if_neg h0, if_neg h0]
    unfold bucketG
    cases hf : bucketF m d with
    | none => rfl
    | some c =>
      have := hk c (List.mem_of_find?_eq_some hf)
      simp only [Option.isSome_some, if_true, Option.getD_some, Bool.true_and]
      rw [decide_eq_true (show 0 ≤ c.kind by omega), Bool.true_and]
theorem hd_kind {m : MapD} {i : Nat} {b : BktD} (h : hdOk m i b = true) : 1 ≤ b.kind ∧ b.items.length = b.weights.length := by
  unfold hdOk at h
  simp only [Bool.and_eq_true, decide_eq_true_eq, beq_iff_eq] at h
  exact ⟨h.1.1.2, h.2⟩
theorem bC_bOk {m : MapD} {i : Nat} {b : BktD} (hk : ∀ c ∈ m.buckets, 1 ≤ c.kind) (h : hdOk m i b = true) : bC m i b = bOk m i b := by
  obtain ⟨h1, h2⟩ := hd_kind h
  unfold bC bOk
  rw [h, wAll, ← h2]
  apply Bool.eq_iff_iff.2
  simp only [Bool.true_and, Bool.and_eq_true, List.all_eq_true, List.mem_range]
  unfold itemC itemOk
  simp only [fit_kind hk h1, Bool.and_eq_true]
  constructor
  · intro h
    exact ⟨fun k hk => (h k hk).2, fun k hk => ⟨(h k hk).1.2, (h k hk).1.1⟩⟩
  · intro h k hk
    exact ⟨⟨(h.2 k hk).2, (h.2 k hk).1⟩, h.1 k hk⟩
theorem all_kind {m : MapD} {p : Nat → BktD → Bool} (hp : ∀ i b, p i b = true → hdOk m i b = true) (h : (List.range m.buckets.length).all (fun i => p i (m.buckets.getD i bkt0)) = true) : (∀ c ∈ m.buckets, 1 ≤ c.kind) ∧ ∀ i, i < m.buckets.length → hdOk m i (m.buckets.getD i bkt0) = true := by
  have h2 : ∀ i, i < m.buckets.length → hdOk m i (m.buckets.getD i bkt0) = true := fun i hi => hp _ _ (List.all_eq_true.1 h i (List.mem_range.2 hi))
  refine ⟨fun c hc => ?_, h2⟩
  obtain ⟨j, hj, hjb⟩ := List.mem_iff_getElem.1 hc
  have := (hd_kind (h2 j hj)).1
  rw [List.getD_eq_getElem?_getD, List.getElem?_eq_getElem hj, hjb] at this
  exact this
theorem check_good (m : MapD) : checkF m = goodF m := by
  unfold checkF goodF
  congr 1
  apply Bool.eq_iff_iff.2
  constructor
  · intro h
    obtain ⟨h1, h2⟩ := all_kind (p := bC m) (fun i b hb => by unfold bC at hb; simp only [Bool.and_eq_true] at hb; exact hb.1) h
    rw [List.all_eq_true] at *
    intro i hi
    rw [← bC_bOk h1 (h2 i (List.mem_range.1 hi))]
    exact h i hi
  · intro h
    obtain ⟨h1, h2⟩ := all_kind (p := bOk m) (fun i b hb => by unfold bOk at hb; simp only [Bool.and_eq_true] at hb; exact hb.1.1) h
    rw [List.all_eq_true] at *
    intro i hi
    rw [bC_bOk h1 (h2 i (List.mem_range.1 hi))]
    exact h i hi
theorem goodC_x {F : Nat → Prop} {H : AH} {m : MapD} {vo vp vb : AV} (hm : MpAt F H m vo vp vb) (hok : OkM m) :
    WC Tryd.prog (tabOf Tryd.prog NT0) S0 21 [mpV m vo vp vb] H fun r h' => Ext H.n H h' ∧ r = .lit (.bool (goodF m)) := by
  refine WC_fn Tryd.func21 rfl rfl ?_
  have o1 := hm.o.one
  have o2 := hm.p.one
  have o3 := hm.b.one
  have EP : ∀ x, Ext H.n H (H.push x) := fun x => (Ext.refl _ _).push _ (Nat.le_refl _)
  simp only [core, Nat.reduceAdd, Nat.reduceSub, Nat.reduceMul, Nat.reduceLT, Nat.reduceEqDiff, reduceCtorEq, Nat.reduceLeDiff, Int.reduceLE, Int.reduceLT, Int.reduceToNat, Tryd.ntmps21, mpV, o1, o2, o3]
  refine (check_x (hm.ext (EP _) (Nat.le_refl _)) hok).mono ?_
  rintro _ h2 ⟨e2, rfl⟩
  rw [← check_good]
  unfold errC
  cases checkF m with
  | true =>
    simp only [core, Nat.reduceAdd, Nat.reduceSub, Nat.reduceMul, Nat.reduceLT, Nat.reduceEqDiff, reduceCtorEq, Nat.reduceLeDiff, Int.reduceLE, Int.reduceLT, Int.reduceToNat]
    exact ⟨(EP _).step e2, rfl⟩
  | false =>
    simp only [core, Nat.reduceAdd, Nat.reduceSub, Nat.reduceMul, Nat.reduceLT, Nat.reduceEqDiff, reduceCtorEq, Nat.reduceLeDiff, Int.reduceLE, Int.reduceLT, Int.reduceToNat]
    exact ⟨(EP _).step e2, rfl⟩
end Go.Proofs.YtkgbeihcepociaaDoor.Ex
end

section

set_option linter.unusedSimpArgs false
set_option linter.unusedVariables false
set_option maxRecDepth 10000
set_option maxHeartbeats 4000000
namespace Go.Proofs.YtkgbeihcepociaaDoor.Ex
open Go
theorem sort_c {H : AH} {p : Nat} {xs : List Int} {c : Cap} {Q : AV → AH → Prop} (hat : H.at p = some (.cells (iL xs) 3)) (hne : xs ≠ []) (hl : xs.length ≤ 4611686018427387903) (hq : Q (.tup []) (H.put p (.cells (iL (srtI xs)) 3))) :
    WC Tryd.prog (tabOf Tryd.prog NT0) S0 36 [.sl p 0 xs.length c] H Q := by
  refine WC_sum Tryd.func36 rfl (g := sSort) rfl ?_ hq
  have h0 : Nat.beq xs.length 0 = false := by
    cases xs with
    | nil => exact absurd rfl hne
    | cons => rfl
  have hi : intsL (iL xs) = some xs := intsL_avI xs
  unfold sSort
  simp only [h0, cond_false, hat, hi]
  have h1 : Nat.beq xs.length xs.length = true := by simp
  have h2 : Nat.ble xs.length 4611686018427387903 = true := Nat.ble_eq_true_of_le hl
  rw [h1, h2]
  rfl
theorem sort_nil_c {H : AH} {Q : AV → AH → Prop} (hq : Q (.tup []) H) : WC Tryd.prog (tabOf Tryd.prog NT0) S0 36 [.lit (.slice none 0 0)] H Q :=
  WC_sum Tryd.func36 rfl (g := sSort) rfl rfl hq
theorem sort_zero_c {H : AH} {p : Nat} {c : Cap} {Q : AV → AH → Prop} (hq : Q (.tup []) H) : WC Tryd.prog (tabOf Tryd.prog NT0) S0 36 [.sl p 0 0 c] H Q :=
  WC_sum Tryd.func36 rfl (g := sSort) rfl rfl hq
theorem compact_c {H : AH} {p : Nat} {xs : List Int} {c : Cap} {Q : AV → AH → Prop} (hat : H.at p = some (.cells (iL xs) 3)) (hne : xs ≠ []) (hl : xs.length ≤ 4611686018427387903) (hq : Q (.sl p 0 (cmpI xs).length c) (H.put p (.cells (iL (cmpO xs)) 3))) :
    WC Tryd.prog (tabOf Tryd.prog NT0) S0 38 [.sl p 0 xs.length c] H Q := by
  refine WC_sum Tryd.func38 rfl (g := sCompact) rfl ?_ hq
  have h0 : Nat.beq xs.length 0 = false := by
    cases xs with
    | nil => exact absurd rfl hne
    | cons => rfl
  have hi : intsL (iL xs) = some xs := intsL_avI xs
  unfold sCompact
  simp only [h0, cond_false, hat, hi]
  have h1 : Nat.beq xs.length xs.length = true := by simp
  have h2 : Nat.ble xs.length 4611686018427387903 = true := Nat.ble_eq_true_of_le hl
  rw [h1, h2]
  rfl
theorem compact_nil_c {H : AH} {Q : AV → AH → Prop} (hq : Q (.lit (.slice none 0 0)) H) : WC Tryd.prog (tabOf Tryd.prog NT0) S0 38 [.lit (.slice none 0 0)] H Q :=
  WC_sum Tryd.func38 rfl (g := sCompact) rfl rfl hq
theorem compact_zero_c {H : AH} {p : Nat} {c : Cap} {Q : AV → AH → Prop} (hq : Q (.sl p 0 0 c) H) : WC Tryd.prog (tabOf Tryd.prog NT0) S0 38 [.sl p 0 0 c] H Q :=
  WC_sum Tryd.func38 rfl (g := sCompact) rfl rfl hq
theorem cmpI_dis {xs : List Int} (hne : ∀ i, i + 1 < xs.length → ¬ xs.getD (i + 1) 0 = xs.getD i 0) : cmpI xs = xs ∧ cmpO xs = xs := by
  have h1 : cmpI xs = xs := by
    refine Lib.compact_all xs fun j hj => ?_
    unfold Lib.keeps
    rw [decide_eq_true_eq]
    cases j with
    | zero => exact .inl rfl
    | succ i =>
      refine .inr fun hh => hne i hj ?_
      have e1 : xs.toArray[i + 1]! = xs.getD (i + 1) 0 := by simp [List.getD_eq_getElem?_getD, List.getElem!_eq_getElem?_getD]
      have e2 : xs.toArray[i + 1 - 1]! = xs.getD i 0 := by simp [List.getD_eq_getElem?_getD, List.getElem!_eq_getElem?_getD]
      rw [e1, e2] at hh
      exact hh
  exact ⟨h1, by unfold cmpO; rw [h1, Nat.sub_self]; simp⟩
theorem reverse_nil {H : AH} : WC Tryd.prog (tabOf Tryd.prog NT0) S0 37 [.lit (.slice none 0 0)] H fun r h' => h' = H := by
  refine WC_fn Tryd.func37 rfl rfl ?_
  have w1 : IntKind.i64.wrap (0 - 1) = -1 := by decide
  have c1 : ((0 : Int) < -1) = False := by decide
  have w2 : IntKind.i64.wrap (((0 : Nat) : Int) - 1) = -1 := by decide
  have q1 : isSl (.lit (.slice none 0 0)) = true := rfl
  have q2 : lenD (.lit (.slice none 0 0)) = 0 := rfl
  simp only [core, Nat.reduceAdd, Nat.reduceSub, Nat.reduceMul, Nat.reduceLT, Nat.reduceEqDiff, reduceCtorEq, Nat.reduceLeDiff, Int.reduceLE, Int.reduceLT, Int.reduceToNat, Tryd.ntmps37, q1, q2, w1, w2]
  refine WB_ind (fun (i : Nat) t h => h = H ∧ t.n = 28 ∧ t.get 0 = .lit (.slice none 0 0) ∧ t.get 2 = .lit (.int .i64 0) ∧ t.get 3 = .lit (.int .i64 (-1))) (fun i => 0) ?_ 0 _ _ ?_
  · rintro i t h ⟨rfl, hn, g0, g2, g3⟩ ih
    simp only [core, Nat.reduceAdd, Nat.reduceSub, Nat.reduceMul, Nat.reduceLT, Nat.reduceEqDiff, reduceCtorEq, Nat.reduceLeDiff, Int.reduceLE, Int.reduceLT, Int.reduceToNat, hn, g0, g2, g3, c1]
    exact Or.inl trivial
  · refine ⟨rfl, ?_⟩
    simp only [core, Nat.reduceAdd, Nat.reduceSub, Nat.reduceMul, Nat.reduceLT, Nat.reduceEqDiff, reduceCtorEq, Nat.reduceLeDiff, Int.reduceLE, Int.reduceLT, Int.reduceToNat]
/-- The buckets without a parent, in order. -/
def orphN (m : MapD) : Nat → List Int
  | 0 => []
  | i + 1 => if (parentF m (m.buckets.getD i bkt0).id).isSome then orphN m i else orphN m i ++ [(m.buckets.getD i bkt0).id]
theorem orphN_len (m : MapD) : ∀ i, (orphN m i).length ≤ i
  | 0 => Nat.le_refl 0
  | i + 1 => by
    have := orphN_len m i
    unfold orphN
    split
    · omega
    · simp; omega
def crootsF (m : MapD) : List Int := (srtI (orphN m m.buckets.length)).reverse
theorem rootsC_x {F : Nat → Prop} {H : AH} {m : MapD} {vo vp vb : AV} (hm : MpAt F H m vo vp vb) (hok : OkM m) (hdis : ∀ i, i + 1 < (crootsF m).length → ¬ (crootsF m).getD (i + 1) 0 = (crootsF m).getD i 0) :
    WC Tryd.prog (tabOf Tryd.prog NT0) S0 17 [mpV m vo vp vb] H fun v h' => Ext H.n H h' ∧ IsSl RInt (fun b => H.n ≤ b) h' v (crootsF m) := by
  refine WC_fn Tryd.func17 rfl rfl ?_
  obtain ⟨hl, hbs, hit⟩ := hok
  have hl0 := hl
  unfold Sm at hl
  have s1 := hm.b.isSl
  have s2 := hm.b.lenD
  have o1 := hm.o.one
  have o2 := hm.p.one
  have o3 := hm.b.one
  have EP : ∀ x, Ext H.n H (H.push x) := fun x => (Ext.refl _ _).push _ (Nat.le_refl _)
  simp only [core, Nat.reduceAdd, Nat.reduceSub, Nat.reduceMul, Nat.reduceLT, Nat.reduceEqDiff, reduceCtorEq, Nat.reduceLeDiff, Int.reduceLE, Int.reduceLT, Int.reduceToNat, Tryd.ntmps17, mpV, s1, s2, o1, o2, o3]
  obtain ⟨h1, hh1⟩ : ∃ h1, h1 = H.push (.cells [.lit (.int .i64 m.epoch), vo, vp, vb, .lit (.int .i64 m.leaf)] 26) := ⟨_, rfl⟩
  have E0 : Ext H.n H h1 := hh1 ▸ EP _
  have A0 : h1.at H.n = some (.cells [.lit (.int .i64 m.epoch), vo, vp, vb, .lit (.int .i64 m.leaf)] 26) := hh1 ▸ at_push_n _ _
  have n1 : h1.n = H.n + 1 := by rw [hh1, n_push]
  rw [← hh1]
  clear hh1
  refine WB_for m.buckets.length (fun i t h => ∃ o, OwnL RInt (fun _ => False) h1.n h o 3 (orphN m i) ∧ Ext h1.n h1 h ∧ t.n = 36 ∧ t.get 1 = .ptr H.n 0 ∧ t.get 3 = o ∧ t.get 9 = vb ∧ t.get 10 = .lit (.int .i64 m.buckets.length) ∧ t.get 11 = .lit (.int .i64 i)) ?_ ?_ _ _ ?_
  · rintro i t h hlt hc ⟨o, ho, he, hn, g1, g3, g9, g10, g11⟩ ih
    obtain ⟨x, hx⟩ : ∃ x, m.buckets[i]? = some x := ⟨_, List.getElem?_eq_getElem hlt⟩
    have E1 : Ext H.n H h := E0.trans (he.mono (by omega))
    obtain ⟨c, hc1, hld, hld0⟩ := hm.b.atE (T := tabOf Tryd.prog NT0) E1 RBkt_z hx
    obtain ⟨va, vw, rfl, ha, hw, i1, i2⟩ := RBkt_is.1 hc1
    have a1 := ha.one
    have w1 := hw.one
    have hws := wrap_succ hlt (by omega)
    have A1 := (he.2 _ (by omega)).trans A0
    have l1 : H.n < h.n := at_lt A1
    have hstep : orphN m (i + 1) = if (parentF m x.id).isSome then orphN m i else orphN m i ++ [x.id] := by rw [orphN, getD_of hx]
    obtain ⟨hA, hhA⟩ : ∃ hA, hA = h.push (.cells [.lit (.int .i64 x.id), .lit (.int .i64 x.kind), va, vw] 47) := ⟨_, rfl⟩
    have EA : Ext h.n h hA := hhA ▸ (Ext.refl _ _).push _ (Nat.le_refl _)
    have PA : hA.at h.n = some (.cells [.lit (.int .i64 x.id), .lit (.int .i64 x.kind), va, vw] 47) := hhA ▸ at_push_n h _
    have AA := (EA.2 _ l1).trans A1
    have LAA := ld_at (T := tabOf Tryd.prog NT0) AA
    have lA := at_lt AA
    have LPA := ld_at (T := tabOf Tryd.prog NT0) PA
    have lPA := at_lt PA
    have EHA := E1.step EA
    simp only [core, Nat.reduceAdd, Nat.reduceSub, Nat.reduceMul, Nat.reduceLT, Nat.reduceEqDiff, reduceCtorEq, Nat.reduceLeDiff, Int.reduceLE, Int.reduceLT, Int.reduceToNat, s1, s2, hn, g1, g3, g9, g10, g11, hlt, hc, hld, hld0, a1, w1, ← hhA, LPA, lPA, LAA, lA]
    refine (parent_x x.id (hm.ext EHA (Nat.le_refl _)) hl0 hbs).mono ?_
    rintro _ h2 ⟨e2, v1, v2, rfl, b1, b2⟩
    have o4 := b1.one
    have o5 := b2.one
    have E2 := EHA.step e2
    have P2 := (e2.2 _ lPA).trans PA
    have l2 := at_lt P2
    simp only [core, Nat.reduceAdd, Nat.reduceSub, Nat.reduceMul, Nat.reduceLT, Nat.reduceEqDiff, reduceCtorEq, Nat.reduceLeDiff, Int.reduceLE, Int.reduceLT, Int.reduceToNat, hn, g1, g3, g9, g10, g11, bktV, o4, o5]
    obtain ⟨h3, hh3⟩ : ∃ h3, h3 = h2.push (.cells [.lit (.int .i64 (parentG m x.id).id), .lit (.int .i64 (parentG m x.id).kind), v1, v2] 47) := ⟨_, rfl⟩
    have e3 : Ext h2.n h2 h3 := hh3 ▸ (Ext.refl _ _).push _ (Nat.le_refl _)
    have P3 := (e3.2 _ l2).trans P2
    have l3 := at_lt P3
    have LP3 := ld_at (T := tabOf Tryd.prog NT0) P3
    have he3 : Ext h1.n h1 h3 := ((he.step EA).step e2).step e3
    have ho3 := ((ho.ext EA (Nat.le_refl _)).ext e2 (Nat.le_refl _)).ext e3 (Nat.le_refl _)
    rw [← hh3]
    clear hh3
    cases hp : (parentF m x.id).isSome with
    | true =>
      rw [hp, if_pos rfl] at hstep
      simp only [core, Nat.reduceAdd, Nat.reduceSub, Nat.reduceMul, Nat.reduceLT, Nat.reduceEqDiff, reduceCtorEq, Nat.reduceLeDiff, Int.reduceLE, Int.reduceLT, Int.reduceToNat, hn, g1, g3, g9, g10, g11, hws]
      refine ih _ _ ⟨o, by rw [hstep]; exact ho3, he3, ?_⟩
      simp only [core, Nat.reduceAdd, Nat.reduceSub, Nat.reduceMul, Nat.reduceLT, Nat.reduceEqDiff, reduceCtorEq, Nat.reduceLeDiff, Int.reduceLE, Int.reduceLT, Int.reduceToNat, hn, g1, g3, g9, g10, g11]
    | false =>
      rw [hp, if_neg (by decide)] at hstep
      simp only [core, Nat.reduceAdd, Nat.reduceSub, Nat.reduceMul, Nat.reduceLT, Nat.reduceEqDiff, reduceCtorEq, Nat.reduceLeDiff, Int.reduceLE, Int.reduceLT, Int.reduceToNat, hn, g1, g3, g9, g10, g11, LP3, l3]
      obtain ⟨h6, hh6⟩ : ∃ h6, h6 = h3.push (.cells [.lit (.int .i64 x.id)] 3) := ⟨_, rfl⟩
      have e6 : Ext h3.n h3 h6 := hh6 ▸ (Ext.refl _ _).push _ (Nat.le_refl _)
      have A6 : h6.at h3.n = some (.cells [.lit (.int .i64 x.id)] 3) := hh6 ▸ at_push_n h3 _
      have n6 := at_lt A6
      rw [← hh6]
      have q0 := he3.1
      have q1 := orphN_len m i
      refine WOp_app ((ho3.ext e6 (Nat.le_refl _)).snoc (by kernel_rfl) (by kernel_rfl) (by kernel_rfl) (zv := .lit (.int .i64 0)) (by kernel_rfl) (by' := 8) (by kernel_rfl) rfl (by decide) (by decide) A6 (y := x.id) ⟨rfl, i1⟩ (by omega) (by omega) (by omega)) ?_
      rintro s' h7 ⟨o7, e7, k7⟩
      have t7 := o7.one
      simp only [core, Nat.reduceAdd, Nat.reduceSub, Nat.reduceMul, Nat.reduceLT, Nat.reduceEqDiff, reduceCtorEq, Nat.reduceLeDiff, Int.reduceLE, Int.reduceLT, Int.reduceToNat, hn, g1, g3, g9, g10, g11, hws, t7]
      refine ih _ _ ⟨s', by rw [hstep]; exact o7, (he3.step e6).trans e7, ?_⟩
      simp only [core, Nat.reduceAdd, Nat.reduceSub, Nat.reduceMul, Nat.reduceLT, Nat.reduceEqDiff, reduceCtorEq, Nat.reduceLeDiff, Int.reduceLE, Int.reduceLT, Int.reduceToNat, hn, g1, g3, g9, g10, g11]
  · rintro t h hc ⟨o, ho, he, hn, g1, g3, g9, g10, g11⟩
    have E1 : Ext H.n H h := E0.trans (he.mono (by omega))
    have q1 := orphN_len m m.buckets.length
    obtain ⟨xs, hxs⟩ : ∃ xs, xs = orphN m m.buckets.length := ⟨_, rfl⟩
    rw [← hxs] at ho q1
    have hcr : crootsF m = (srtI xs).reverse := by unfold crootsF; rw [hxs]
    have hsl : (srtI xs).length = xs.length := by unfold srtI; simp
    by_cases hne : xs = []
    · subst hne
      have hcr0 : crootsF m = [] := by rw [hcr]; unfold srtI; simp
      obtain ⟨L, h1', h2'⟩ := ho
      have hL : L = [] := List.eq_nil_of_length_eq_zero h2'.1
      subst hL
      rcases h1'.2 with ⟨rfl, _⟩ | ⟨p, rfl, hp, hat⟩
      · simp only [core, Nat.reduceAdd, Nat.reduceSub, Nat.reduceMul, Nat.reduceLT, Nat.reduceEqDiff, reduceCtorEq, Nat.reduceLeDiff, Int.reduceLE, Int.reduceLT, Int.reduceToNat, s1, s2, hn, g1, g3, g9, g10, g11, hc]
        refine sort_nil_c ?_
        simp only [core, Nat.reduceAdd, Nat.reduceSub, Nat.reduceMul, Nat.reduceLT, Nat.reduceEqDiff, reduceCtorEq, Nat.reduceLeDiff, Int.reduceLE, Int.reduceLT, Int.reduceToNat, s1, s2, hn, g1, g3, g9, g10, g11, hc]
        refine reverse_nil.mono ?_
        rintro _ h3 rfl
        simp only [core, Nat.reduceAdd, Nat.reduceSub, Nat.reduceMul, Nat.reduceLT, Nat.reduceEqDiff, reduceCtorEq, Nat.reduceLeDiff, Int.reduceLE, Int.reduceLT, Int.reduceToNat, s1, s2, hn, g1, g3, g9, g10, g11, hc]
        refine compact_nil_c ?_
        simp only [core, Nat.reduceAdd, Nat.reduceSub, Nat.reduceMul, Nat.reduceLT, Nat.reduceEqDiff, reduceCtorEq, Nat.reduceLeDiff, Int.reduceLE, Int.reduceLT, Int.reduceToNat, s1, s2, hn, g1, g3, g9, g10, g11, hc]
        rw [hcr0]
        exact ⟨E1, IsSl.nil⟩
      · have hat : h.at p = some (.cells (iL []) 3) := hat
        simp only [core, Nat.reduceAdd, Nat.reduceSub, Nat.reduceMul, Nat.reduceLT, Nat.reduceEqDiff, reduceCtorEq, Nat.reduceLeDiff, Int.reduceLE, Int.reduceLT, Int.reduceToNat, s1, s2, hn, g1, g3, g9, g10, g11, hc]
        refine sort_zero_c ?_
        simp only [core, Nat.reduceAdd, Nat.reduceSub, Nat.reduceMul, Nat.reduceLT, Nat.reduceEqDiff, reduceCtorEq, Nat.reduceLeDiff, Int.reduceLE, Int.reduceLT, Int.reduceToNat, s1, s2, hn, g1, g3, g9, g10, g11, hc]
        refine (reverse_x hat (by decide)).mono ?_
        rintro _ h3 ⟨hat3, hn3, hk3⟩
        have E3 : Ext H.n H h3 := ⟨by rw [hn3]; exact E1.1, fun b hb => (hk3 b (by omega)).trans (E1.2 b hb)⟩
        have ho3 : OwnL RInt (fun _ => False) H.n h3 (.sl p 0 ([] : List Int).length (.un 1)) 3 [] := OwnL.ofInts (by omega) hat3 (fun y hy => by cases hy)
        have hv3 : IsSl RInt (fun b => H.n ≤ b) h3 (.sl p 0 0 (.un 1)) [] := ho3.toSl (fun _ hf => hf.elim) (fun b hb => hb)
        simp only [core, Nat.reduceAdd, Nat.reduceSub, Nat.reduceMul, Nat.reduceLT, Nat.reduceEqDiff, reduceCtorEq, Nat.reduceLeDiff, Int.reduceLE, Int.reduceLT, Int.reduceToNat, s1, s2, hn, g1, g3, g9, g10, g11, hc]
        refine compact_zero_c ?_
        simp only [core, Nat.reduceAdd, Nat.reduceSub, Nat.reduceMul, Nat.reduceLT, Nat.reduceEqDiff, reduceCtorEq, Nat.reduceLeDiff, Int.reduceLE, Int.reduceLT, Int.reduceToNat, s1, s2, hn, g1, g3, g9, g10, g11, hc]
        rw [hcr0]
        exact ⟨E3, hv3⟩
    · obtain ⟨p, rfl, hp, hat, hI⟩ := ho.ints hne
      simp only [core, Nat.reduceAdd, Nat.reduceSub, Nat.reduceMul, Nat.reduceLT, Nat.reduceEqDiff, reduceCtorEq, Nat.reduceLeDiff, Int.reduceLE, Int.reduceLT, Int.reduceToNat, s1, s2, hn, g1, g3, g9, g10, g11, hc]
      refine sort_c hat hne (by omega) ?_
      obtain ⟨h2, hh2⟩ : ∃ h2, h2 = h.put p (.cells (iL (srtI xs)) 3) := ⟨_, rfl⟩
      have hat2 : h2.at p = some (.cells (iL (srtI xs)) 3) := hh2 ▸ at_put_same _ (at_lt hat)
      have E2 : Ext H.n H h2 := hh2 ▸ E1.put _ (by omega)
      rw [← hh2]
      clear hh2
      simp only [core, Nat.reduceAdd, Nat.reduceSub, Nat.reduceMul, Nat.reduceLT, Nat.reduceEqDiff, reduceCtorEq, Nat.reduceLeDiff, Int.reduceLE, Int.reduceLT, Int.reduceToNat, s1, s2, hn, g1, g3, g9, g10, g11, hc]
      have hrv := reverse_x hat2 (by omega)
      rw [hsl] at hrv
      refine hrv.mono ?_
      rintro _ h3 ⟨hat3, hn3, hk3⟩
      have E3 : Ext H.n H h3 := ⟨by rw [hn3]; exact E2.1, fun b hb => (hk3 b (by omega)).trans (E2.2 b hb)⟩
      have hlr : (srtI xs).reverse.length = xs.length := by simp [hsl]
      have hI2 : ∀ y ∈ (srtI xs).reverse, I64 y := fun y hy => hI y (by
        rw [List.mem_reverse] at hy
        unfold srtI at hy
        exact (List.mergeSort_perm _ _).mem_iff.1 hy)
      have ho3 : OwnL RInt (fun _ => False) H.n h3 (.sl p 0 (srtI xs).reverse.length (.un 1)) 3 (srtI xs).reverse := OwnL.ofInts (by omega) hat3 hI2
      have hv3 : IsSl RInt (fun b => H.n ≤ b) h3 (.sl p 0 xs.length (.un 1)) (crootsF m) := by
        rw [hcr, ← hlr]
        exact ho3.toSl (fun _ hf => hf.elim) (fun b hb => hb)
      simp only [core, Nat.reduceAdd, Nat.reduceSub, Nat.reduceMul, Nat.reduceLT, Nat.reduceEqDiff, reduceCtorEq, Nat.reduceLeDiff, Int.reduceLE, Int.reduceLT, Int.reduceToNat, s1, s2, hn, g1, g3, g9, g10, g11, hc]
      rw [hcr] at hdis
      obtain ⟨d1, d2⟩ := cmpI_dis hdis
      have hne3 : (srtI xs).reverse ≠ [] := fun hh => hne (List.eq_nil_of_length_eq_zero (by rw [← hlr, hh]; rfl))
      rw [← hlr]
      refine compact_c hat3 hne3 (by rw [hlr]; omega) ?_
      rw [d1, d2]
      simp only [core, Nat.reduceAdd, Nat.reduceSub, Nat.reduceMul, Nat.reduceLT, Nat.reduceEqDiff, reduceCtorEq, Nat.reduceLeDiff, Int.reduceLE, Int.reduceLT, Int.reduceToNat, s1, s2, hn, g1, g3, g9, g10, g11, hc]
      refine ⟨E3.put _ (by omega), ?_⟩
      have ho4 : OwnL RInt (fun _ => False) H.n (h3.put p (.cells (iL (srtI xs).reverse) 3)) (.sl p 0 (srtI xs).reverse.length (.un 1)) 3 (srtI xs).reverse := OwnL.ofInts (by omega) (at_put_same _ (at_lt hat3)) hI2
      rw [hcr]
      exact ho4.toSl (fun _ hf => hf.elim) (fun b hb => hb)
  · refine ⟨_, OwnL.nil, Ext.refl _ _, ?_⟩
    simp only [core, Nat.reduceAdd, Nat.reduceSub, Nat.reduceMul, Nat.reduceLT, Nat.reduceEqDiff, reduceCtorEq, Nat.reduceLeDiff, Int.reduceLE, Int.reduceLT, Int.reduceToNat]
    (repeat' apply And.intro) <;> first | rfl | trivial
end Go.Proofs.YtkgbeihcepociaaDoor.Ex
end

section

set_option linter.unusedSimpArgs false
set_option linter.unusedVariables false
set_option maxRecDepth 10000
set_option maxHeartbeats 4000000
namespace Go.Proofs.YtkgbeihcepociaaDoor.Ex
open Go
theorem insD_perm {x : Int} {l : List Int} : (insD x l).Perm (x :: l) := by
  unfold insD
  have h := (List.perm_middle (a := x) (l₁ := l.take (posF x l l.length)) (l₂ := l.drop (posF x l l.length)))
  rw [List.take_append_drop] at h
  exact h
theorem posF_spec {x : Int} {l : List Int} : ∀ n, n ≤ l.length → (∀ k, posF x l n ≤ k → k < n → l.getD k 0 < x) ∧ (0 < posF x l n → x ≤ l.getD (posF x l n - 1) 0)
  | 0, _ => ⟨fun k h1 h2 => by omega, fun h => by unfold posF at h; omega⟩
  | n + 1, hn => by
    obtain ⟨h1, h2⟩ := posF_spec (x := x) (l := l) n (by omega)
    unfold posF
    split
    · rename_i hq
      refine ⟨fun k h3 h4 => ?_, h2⟩
      by_cases hk : k = n
      · subst hk; simpa using hq
      · exact h1 k h3 (by omega)
    · rename_i hq
      refine ⟨fun k h3 h4 => by omega, fun _ => ?_⟩
      simpa using hq
theorem desc_get {l : List Int} (hs : l.Pairwise (fun a b => b < a)) {i j : Nat} (hij : i < j) (hj : j < l.length) : l.getD j 0 < l.getD i 0 := by
  rw [List.getD_eq_getElem?_getD, List.getD_eq_getElem?_getD, List.getElem?_eq_getElem hj, List.getElem?_eq_getElem (by omega)]
  exact List.pairwise_iff_getElem.1 hs i j (by omega) hj hij
theorem insD_desc {x : Int} {l : List Int} (hs : l.Pairwise (fun a b => b < a)) (hx : x ∉ l) : (insD x l).Pairwise (fun a b => b < a) := by
  obtain ⟨h1, h2⟩ := posF_spec (x := x) (l := l) l.length (Nat.le_refl _)
  have hp := posF_le x l l.length
  unfold insD
  rw [List.pairwise_append]
  refine ⟨hs.sublist (List.take_sublist _ _), List.pairwise_cons.2 ⟨fun y hy => ?_, hs.sublist (List.drop_sublist _ _)⟩, fun y hy z hz => ?_⟩
  · obtain ⟨j, hj, rfl⟩ := List.mem_iff_getElem.1 hy
    rw [List.length_drop] at hj
    have := h1 (posF x l l.length + j) (by omega) (by omega)
    rw [List.getD_eq_getElem?_getD, List.getElem?_eq_getElem (by omega)] at this
    rw [List.getElem_drop]
    exact this
  · obtain ⟨j, hj, rfl⟩ := List.mem_iff_getElem.1 hy
    rw [List.length_take] at hj
    have hjl : j < l.length := by omega
    have hyx : x < (l.take (posF x l l.length))[j] := by
      have e : (l.take (posF x l l.length))[j] = l.getD j 0 := by
        rw [List.getElem_take, List.getD_eq_getElem?_getD, List.getElem?_eq_getElem hjl]
        rfl
      rw [e]
      have h3 := h2 (by omega)
      have h4 : l.getD (posF x l l.length - 1) 0 ≤ l.getD j 0 := by
        by_cases hh : j = posF x l l.length - 1
        · rw [← hh]; exact Int.le_refl _
        · exact Int.le_of_lt (desc_get hs (by omega) (by omega))
      have h5 : l.getD j 0 ≠ x := fun hh => hx (by
        rw [← hh, List.getD_eq_getElem?_getD, List.getElem?_eq_getElem hjl]
        exact List.getElem_mem hjl)
      omega
    rcases List.mem_cons.1 hz with rfl | hz
    · exact hyx
    · obtain ⟨k, hk, rfl⟩ := List.mem_iff_getElem.1 hz
      rw [List.length_drop] at hk
      have := h1 (posF x l l.length + k) (by omega) (by omega)
      rw [List.getD_eq_getElem?_getD, List.getElem?_eq_getElem (by omega)] at this
      rw [List.getElem_drop]
      exact Int.lt_trans this hyx
theorem parent_within {m : MapD} {id : Int} : (parentF m id).isSome = withinF m id := by
  unfold parentF withinF
  apply Bool.eq_iff_iff.2
  rw [List.find?_isSome, List.any_eq_true]
theorem good_once {m : MapD} (hg : goodF m = true) {i : Nat} (hi : i < m.buckets.length) : twiceF m i = false := by
  unfold goodF at hg
  simp only [Bool.and_eq_true] at hg
  have := List.all_eq_true.1 hg.2 i (List.mem_range.2 hi)
  unfold bOk hdOk at this
  simp only [Bool.and_eq_true] at this
  have h := this.1.1.1.1.1.1
  unfold twiceF
  simpa using h
theorem roots_walk {m : MapD} (hg : goodF m = true) : ∀ i, i ≤ m.buckets.length → (rootsN m i).Perm (orphN m i) ∧ (rootsN m i).Pairwise (fun a b => b < a) ∧ ∀ y ∈ orphN m i, ∃ c ∈ m.buckets.take i, c.id = y
  | 0, _ => ⟨List.Perm.refl _, List.Pairwise.nil, fun y hy => by cases hy⟩
  | i + 1, hi => by
    obtain ⟨h1, h2, h3⟩ := roots_walk hg i (by omega)
    have hx : m.buckets[i]? = some (m.buckets.getD i bkt0) := getD_some' bkt0 (by omega)
    have htk : m.buckets.take (i + 1) = m.buckets.take i ++ [m.buckets.getD i bkt0] := by rw [List.take_add_one, hx]; rfl
    unfold rootsN orphN
    rw [good_once hg (by omega), Bool.or_false, parent_within]
    cases hw : withinF m (m.buckets.getD i bkt0).id with
    | true =>
      refine ⟨h1, h2, fun y hy => ?_⟩
      obtain ⟨c, hc, hcy⟩ := h3 y hy
      exact ⟨c, by rw [htk]; exact List.mem_append.2 (.inl hc), hcy⟩
    | false =>
      have hno : (m.buckets.getD i bkt0).id ∉ rootsN m i := fun hmem => by
        obtain ⟨c, hc, hcy⟩ := h3 _ (h1.mem_iff.1 hmem)
        have := good_once hg (show i < m.buckets.length by omega)
        unfold twiceF at this
        rw [List.any_eq_false] at this
        exact this c hc (by simpa using hcy)
      refine ⟨?_, insD_desc h2 hno, fun y hy => ?_⟩
      · refine insD_perm.trans ((List.Perm.cons _ h1).trans ?_)
        exact (List.perm_append_comm (l₁ := [_]) (l₂ := orphN m i))
      · rcases List.mem_append.1 hy with hy | hy
        · obtain ⟨c, hc, hcy⟩ := h3 y hy
          exact ⟨c, by rw [htk]; exact List.mem_append.2 (.inl hc), hcy⟩
        · exact ⟨m.buckets.getD i bkt0, by rw [htk]; exact List.mem_append.2 (.inr (List.mem_cons_self ..)), (List.mem_singleton.1 hy).symm⟩
theorem roots_same {m : MapD} (hg : goodF m = true) : crootsF m = rootsR m := by
  obtain ⟨h1, h2, _⟩ := roots_walk hg m.buckets.length (Nat.le_refl _)
  unfold crootsF rootsR
  refine List.Perm.eq_of_pairwise (le := fun a b => b ≤ a) (fun a b _ _ h3 h4 => Int.le_antisymm h4 h3) ?_ (h2.imp fun h => Int.le_of_lt h) ((List.reverse_perm _).trans ((List.mergeSort_perm _ _).trans h1.symm))
  rw [List.pairwise_reverse]
  unfold srtI
  have := List.pairwise_mergeSort (le := fun x y : Int => decide (x ≤ y)) (fun a b c h h' => by simp at *; omega) (fun a b => by simp; omega) (orphN m m.buckets.length)
  exact this.imp fun h => by simpa using h
theorem croots_dis {m : MapD} (hg : goodF m = true) : ∀ i, i + 1 < (crootsF m).length → ¬ (crootsF m).getD (i + 1) 0 = (crootsF m).getD i 0 := fun i hi => by
  obtain ⟨_, h2, _⟩ := roots_walk hg m.buckets.length (Nat.le_refl _)
  rw [roots_same hg] at hi ⊢
  have := desc_get (l := rootsR m) h2 (show i < i + 1 by omega) hi
  omega
theorem rootsG_x {F : Nat → Prop} {H : AH} {m : MapD} {vo vp vb : AV} (hm : MpAt F H m vo vp vb) (hok : OkM m) (hg : goodF m = true) :
    WC Tryd.prog (tabOf Tryd.prog NT0) S0 17 [mpV m vo vp vb] H fun v h' => Ext H.n H h' ∧ IsSl RInt (fun b => H.n ≤ b) h' v (rootsR m) := by
  rw [← roots_same hg]
  exact rootsC_x hm hok (croots_dis hg)
end Go.Proofs.YtkgbeihcepociaaDoor.Ex
end

section

set_option linter.unusedSimpArgs false
set_option linter.unusedVariables false
set_option maxRecDepth 10000
set_option maxHeartbeats 4000000
namespace Go.Proofs.YtkgbeihcepociaaDoor.Ex
open Go
theorem wide8_x {F : Nat → Prop} {H : AH} {m : MapD} {vo vp vb : AV} (hm : MpAt F H m vo vp vb) (hok : OkM m) :
    WC Tryd.prog (tabOf Tryd.prog NT0) S0 7 [mpV m vo vp vb] H fun r h' => Ext H.n H h' ∧ ∃ b, r = .lit (.bool b) ∧ (b = false → m.buckets.length ≤ 40) := by
  refine WC_fn Tryd.func7 rfl rfl ?_
  obtain ⟨hl, hbs, -⟩ := id hok
  unfold Sm at hl
  have s1 := hm.b.isSl
  have s2 := hm.b.lenD
  have o1 := hm.o.one
  have o2 := hm.p.one
  have o3 := hm.b.one
  simp only [core, Nat.reduceAdd, Nat.reduceSub, Nat.reduceMul, Nat.reduceLT, Nat.reduceEqDiff, reduceCtorEq, Nat.reduceLeDiff, Int.reduceLE, Int.reduceLT, Int.reduceToNat, Tryd.ntmps7, mpV, s1, s2, o1, o2, o3]
  obtain ⟨h1, hh1⟩ : ∃ h1, h1 = H.push (.cells [.lit (.int .i64 m.epoch), vo, vp, vb, .lit (.int .i64 m.leaf)] 26) := ⟨_, rfl⟩
  have E1 : Ext H.n H h1 := hh1 ▸ (Ext.refl _ _).push _ (Nat.le_refl _)
  have P1 : h1.at H.n = some (.cells [.lit (.int .i64 m.epoch), vo, vp, vb, .lit (.int .i64 m.leaf)] 26) := hh1 ▸ at_push_n _ _
  rw [← hh1]
  clear hh1
  have lp1 := at_lt P1
  have LP1 := ld_at (T := tabOf Tryd.prog NT0) P1
  refine WB_for m.buckets.length (fun i t h => (∃ n, t.get 3 = .lit (.int .i64 n)) ∧ Ext h1.n h1 h ∧ t.n = 27 ∧ t.get 1 = .ptr H.n 0 ∧ t.get 7 = vb ∧ t.get 8 = .lit (.int .i64 m.buckets.length) ∧ t.get 9 = .lit (.int .i64 i)) ?_ ?_ _ _ ?_
  · rintro i t h hlt hc ⟨⟨n, g3⟩, he, hn, g1, g7, g8, g9⟩ ih
    obtain ⟨x, hx⟩ : ∃ x, m.buckets[i]? = some x := ⟨_, List.getElem?_eq_getElem hlt⟩
    have EH := E1.step he
    obtain ⟨c, hc1, hld, hld0⟩ := hm.b.atE (T := tabOf Tryd.prog NT0) EH RBkt_z hx
    obtain ⟨va, vw, rfl, ha, hw, i1, i2⟩ := RBkt_is.1 hc1
    have a1 := ha.one
    have w1 := hw.one
    have a2 := ha.isSl
    have a3 := ha.lenD
    have hws := wrap_succ hlt (by omega)
    simp only [core, Nat.reduceAdd, Nat.reduceSub, Nat.reduceMul, Nat.reduceLT, Nat.reduceEqDiff, reduceCtorEq, Nat.reduceLeDiff, Int.reduceLE, Int.reduceLT, Int.reduceToNat, hn, g1, g7, g8, g9, g3, hlt, hc, hws, s1, s2, hld, hld0, a1, w1, a2, a3]
    refine ih _ _ ⟨⟨IntKind.i64.wrap (n + x.items.length), by simp only [core, Nat.reduceAdd, Nat.reduceSub, Nat.reduceMul, Nat.reduceLT, Nat.reduceEqDiff, reduceCtorEq, Nat.reduceLeDiff, Int.reduceLE, Int.reduceLT, Int.reduceToNat, hn, g1, g7, g8, g9, g3]⟩, he.push _ he.1, by simp only [core, Nat.reduceAdd, Nat.reduceSub, Nat.reduceMul, Nat.reduceLT, Nat.reduceEqDiff, reduceCtorEq, Nat.reduceLeDiff, Int.reduceLE, Int.reduceLT, Int.reduceToNat, hn, g1, g7, g8, g9]⟩
  · rintro t h hc ⟨⟨n, g3⟩, he, hn, g1, g7, g8, g9⟩
    have P := (he.2 _ lp1).trans P1
    have lp := at_lt P
    have LP := ld_at (T := tabOf Tryd.prog NT0) P
    have EH := E1.step he
    by_cases hb : (40 : Int) < (m.buckets.length : Int)
    · simp only [core, Nat.reduceAdd, Nat.reduceSub, Nat.reduceMul, Nat.reduceLT, Nat.reduceEqDiff, reduceCtorEq, Nat.reduceLeDiff, Int.reduceLE, Int.reduceLT, Int.reduceToNat, hn, g1, g7, g8, g9, g3, hc, LP, lp, s1, s2, hb]
      exact ⟨EH, true, rfl, fun h => by cases h⟩
    · simp only [core, Nat.reduceAdd, Nat.reduceSub, Nat.reduceMul, Nat.reduceLT, Nat.reduceEqDiff, reduceCtorEq, Nat.reduceLeDiff, Int.reduceLE, Int.reduceLT, Int.reduceToNat, hn, g1, g7, g8, g9, g3, hc, LP, lp, s1, s2, hb]
      exact ⟨EH, _, rfl, fun _ => by omega⟩
  · refine ⟨⟨0, by simp only [core, Nat.reduceAdd, Nat.reduceSub, Nat.reduceMul, Nat.reduceLT, Nat.reduceEqDiff, reduceCtorEq, Nat.reduceLeDiff, Int.reduceLE, Int.reduceLT, Int.reduceToNat]⟩, Ext.refl _ _, ?_⟩
    simp only [core, Nat.reduceAdd, Nat.reduceSub, Nat.reduceMul, Nat.reduceLT, Nat.reduceEqDiff, reduceCtorEq, Nat.reduceLeDiff, Int.reduceLE, Int.reduceLT, Int.reduceToNat]
    (repeat' apply And.intro) <;> first | rfl | trivial
/-! Up from an item. -/
def upF (m : MapD) (k : Int) : Nat → Int → Int → Option Int
  | 0, _, _ => none
  | n + 1, a, is => if is = k then some a else match parentF m a with
    | none => none
    | some b => upF m k n b.id b.kind
def underF (m : MapD) (osd k : Int) : Option Int := if goodF m then (if 0 ≤ osd ∧ osd < 8 then upF m k 5 osd 0 else none) else none
theorem parent_kind {m : MapD} (hg : goodF m = true) {a : Int} {b : BktD} (hp : parentF m a = some b) : b ∈ m.buckets ∧ b.id < 0 ∧ 1 ≤ b.kind ∧ b.kind ≤ 3 ∧ 0 ≤ kindF m a ∧ kindF m a < b.kind ∧ kindF m b.id = b.kind := by
  unfold parentF at hp
  have hmem := List.mem_of_find?_eq_some hp
  have hcon := List.find?_some hp
  obtain ⟨j, hj⟩ := List.mem_iff_getElem?.1 hmem
  have hjl := (List.getElem?_eq_some_iff.1 hj).1
  have hg0 := hg
  unfold goodF at hg
  simp only [Bool.and_eq_true, List.all_eq_true] at hg
  have h1 := hg.2 j (List.mem_range.2 hjl)
  rw [getD_of hj] at h1
  unfold bOk at h1
  simp only [Bool.and_eq_true, List.all_eq_true] at h1
  obtain ⟨⟨hh, -⟩, hi⟩ := h1
  unfold hdOk at hh
  simp only [Bool.and_eq_true, decide_eq_true_eq] at hh
  obtain ⟨⟨⟨⟨h5, h6⟩, h7⟩, h8⟩, -⟩ := hh
  obtain ⟨k, hk, rfl⟩ := List.mem_iff_getElem.1 (List.contains_iff_mem.1 hcon)
  have h2 := hi k (List.mem_range.2 hk)
  unfold itemOk at h2
  simp only [Bool.and_eq_true, decide_eq_true_eq] at h2
  have e : b.items.getD k 0 = b.items[k] := by rw [List.getD_eq_getElem?_getD, List.getElem?_eq_getElem hk]; rfl
  rw [e] at h2
  refine ⟨hmem, h6, h7, h8, h2.1.1, h2.1.2, ?_⟩
  have hb : bucketF m b.id = some b := by
    unfold bucketF
    rw [List.find?_eq_some_iff_getElem]
    refine ⟨beq_self_eq_true _, j, hjl, (List.getElem?_eq_some_iff.1 hj).2, fun i hij => ?_⟩
    simp only [Bool.not_eq_true'] at h5 ⊢
    have := List.any_eq_false.1 h5 m.buckets[i] (by
      rw [List.mem_take_iff_getElem]
      exact ⟨i, by omega, rfl⟩)
    simpa using this
  exact kind_bkt h6 hb
theorem under_x {F : Nat → Prop} {H : AH} {m : MapD} {vo vp vb : AV} (osd k : Int) (hm : MpAt F H m vo vp vb) (hok : OkM m) :
    WC Tryd.prog (tabOf Tryd.prog NT0) S0 18 [mpV m vo vp vb, .lit (.int .i64 osd), .lit (.int .i64 k)] H fun v h' => Ext H.n H h' ∧ v = optV (underF m osd k) := by
  refine WC_fn Tryd.func18 rfl rfl ?_
  obtain ⟨hl, hbs, -⟩ := id hok
  have o1 := hm.o.one
  have o2 := hm.p.one
  have o3 := hm.b.one
  simp only [core, Nat.reduceAdd, Nat.reduceSub, Nat.reduceMul, Nat.reduceLT, Nat.reduceEqDiff, reduceCtorEq, Nat.reduceLeDiff, Int.reduceLE, Int.reduceLT, Int.reduceToNat, Tryd.ntmps18, mpV, o1, o2, o3]
  obtain ⟨h1, hh1⟩ : ∃ h1, h1 = H.push (.cells [.lit (.int .i64 m.epoch), vo, vp, vb, .lit (.int .i64 m.leaf)] 26) := ⟨_, rfl⟩
  have E1 : Ext H.n H h1 := hh1 ▸ (Ext.refl _ _).push _ (Nat.le_refl _)
  have P1 : h1.at H.n = some (.cells [.lit (.int .i64 m.epoch), vo, vp, vb, .lit (.int .i64 m.leaf)] 26) := hh1 ▸ at_push_n _ _
  rw [← hh1]
  clear hh1
  have lp1 := at_lt P1
  have LP1 := ld_at (T := tabOf Tryd.prog NT0) P1
  refine (goodC_x (hm.ext E1 (Nat.le_refl _)) hok).mono ?_
  rintro _ h2 ⟨e2, rfl⟩
  have E2 := E1.step e2
  cases hg : goodF m with
  | false =>
    simp only [core, Nat.reduceAdd, Nat.reduceSub, Nat.reduceMul, Nat.reduceLT, Nat.reduceEqDiff, reduceCtorEq, Nat.reduceLeDiff, Int.reduceLE, Int.reduceLT, Int.reduceToNat]
    exact ⟨E2, by unfold underF; rw [hg]; rfl⟩
  | true =>
  have P2 := (e2.2 _ lp1).trans P1
  have lp2 := at_lt P2
  have LP2 := ld_at (T := tabOf Tryd.prog NT0) P2
  by_cases c0 : osd < 0
  · simp only [core, Nat.reduceAdd, Nat.reduceSub, Nat.reduceMul, Nat.reduceLT, Nat.reduceEqDiff, reduceCtorEq, Nat.reduceLeDiff, Int.reduceLE, Int.reduceLT, Int.reduceToNat, c0]
    refine ⟨E2, ?_⟩
    unfold underF
    rw [hg, if_pos rfl, if_neg (by omega)]
    rfl
  by_cases c8 : 8 ≤ osd
  · simp only [core, Nat.reduceAdd, Nat.reduceSub, Nat.reduceMul, Nat.reduceLT, Nat.reduceEqDiff, reduceCtorEq, Nat.reduceLeDiff, Int.reduceLE, Int.reduceLT, Int.reduceToNat, c0, c8]
    refine ⟨E2, ?_⟩
    unfold underF
    rw [hg, if_pos rfl, if_neg (by omega)]
    rfl
  simp only [core, Nat.reduceAdd, Nat.reduceSub, Nat.reduceMul, Nat.reduceLT, Nat.reduceEqDiff, reduceCtorEq, Nat.reduceLeDiff, Int.reduceLE, Int.reduceLT, Int.reduceToNat, c0, c8, LP2, lp2, o1, o2, o3]
  have hU : underF m osd k = upF m k 5 osd 0 := by unfold underF; rw [hg, if_pos rfl, if_pos (by omega)]
  rw [hU]
  refine (parent_x osd (hm.ext E2 (Nat.le_refl _)) hl hbs).mono ?_
  rintro _ h3 ⟨e3, va, vw, rfl, b1, b2⟩
  have E3 := E2.step e3
  have P3 := (e3.2 _ lp2).trans P2
  have lp3 := at_lt P3
  have q1 := b1.one
  have q2 := b2.one
  simp only [core, Nat.reduceAdd, Nat.reduceSub, Nat.reduceMul, Nat.reduceLT, Nat.reduceEqDiff, reduceCtorEq, Nat.reduceLeDiff, Int.reduceLE, Int.reduceLT, Int.reduceToNat, bktV, q1, q2]
  have hn3 := E3.1
  refine WB_ind (fun (n : Nat) t h => ∃ a is va vw, h3.n < h.n ∧ (∀ b, b < h3.n → h.at b = h3.at b) ∧ kindF m a = is ∧ 0 ≤ is ∧ 5 ≤ is + n ∧ 1 ≤ n ∧ upF m k n a is = upF m k 5 osd 0 ∧ AV.one va = true ∧ AV.one vw = true ∧ h.at h3.n = some (.cells [.lit (.int .i64 (parentG m a).id), .lit (.int .i64 (parentG m a).kind), va, vw] 47) ∧ t.n = 44 ∧ t.get 1 = .lit (.int .i64 osd) ∧ t.get 2 = .lit (.int .i64 k) ∧ t.get 3 = .ptr H.n 0 ∧ t.get 8 = .lit (.int .i64 a) ∧ t.get 9 = .lit (.int .i64 is) ∧ t.get 10 = .ptr h3.n 0 ∧ t.get 11 = .lit (.bool (parentF m a).isSome)) (fun n => n) ?_ 5 _ _ ?_
  · rintro n t h ⟨a, is, va, vw, hn, hk, hkd, h0, hsum, h1n, hU, q1, q2, B, hn, g1, g2, g3, g8, g9, g10, g11⟩ ih
    obtain ⟨n, rfl⟩ : ∃ n', n = n' + 1 := ⟨n - 1, by omega⟩
    have EH : Ext H.n H h := ⟨by omega, fun b hb => (hk b (by omega)).trans (E3.2 b hb)⟩
    have P := (hk H.n lp3).trans P3
    have lp := at_lt P
    have LP := ld_at (T := tabOf Tryd.prog NT0) P
    have LB := ld_at (T := tabOf Tryd.prog NT0) B
    have lb := at_lt B
    rw [upF] at hU
    by_cases hik : is = k
    · have c1 : (is != k) = false := by rw [hik]; exact bne_self_eq_false _
      rw [if_pos hik] at hU
      simp only [core, Nat.reduceAdd, Nat.reduceSub, Nat.reduceMul, Nat.reduceLT, Nat.reduceEqDiff, reduceCtorEq, Nat.reduceLeDiff, Int.reduceLE, Int.reduceLT, Int.reduceToNat, hn, g1, g2, g3, g8, g9, g10, g11, c1]
      refine ⟨EH, ?_⟩
      rw [← hU]
      rfl
    · have c1 : (is != k) = true := by rw [bne_iff_ne]; exact hik
      rw [if_neg hik] at hU
      cases hp : parentF m a with
      | none =>
        rw [hp] at hU
        simp only [core, Nat.reduceAdd, Nat.reduceSub, Nat.reduceMul, Nat.reduceLT, Nat.reduceEqDiff, reduceCtorEq, Nat.reduceLeDiff, Int.reduceLE, Int.reduceLT, Int.reduceToNat, hn, g1, g2, g3, g8, g9, g10, g11, c1, hp, Option.isSome_none]
        refine ⟨EH, ?_⟩
        rw [← hU]
        rfl
      | some b =>
        rw [hp] at hU
        have hG : parentG m a = b := by unfold parentG; rw [hp]; rfl
        rw [hG] at B LB
        obtain ⟨z1, z2, z3, z4, z5, z6, z7⟩ := parent_kind hg hp
        simp only [core, Nat.reduceAdd, Nat.reduceSub, Nat.reduceMul, Nat.reduceLT, Nat.reduceEqDiff, reduceCtorEq, Nat.reduceLeDiff, Int.reduceLE, Int.reduceLT, Int.reduceToNat, hn, g1, g2, g3, g8, g9, g10, g11, c1, hp, hG, Option.isSome_some]
        rw [WB_regionD [0, 1, 2, 3, 4, 5] 33337376832 (by kernel_rfl)]
        repeat ((with_reducible refine WDM_cons ?_; simp only [dw1]; try simp only [dw2, Nat.reduceAdd, Nat.reduceMul, Nat.reduceShiftRight, Nat.reduceMod, Nat.reduceEqDiff]); simp only [core, Nat.reduceAdd, Nat.reduceSub, Nat.reduceMul, Nat.reduceLT, Nat.reduceEqDiff, reduceCtorEq, Nat.reduceLeDiff, Int.reduceLE, Int.reduceLT, Int.reduceToNat, cored, hn, g1, g2, g3, g8, g9, g10, g11, LB, lb])
        simp only [core, Nat.reduceAdd, Nat.reduceSub, Nat.reduceMul, Nat.reduceLT, Nat.reduceEqDiff, reduceCtorEq, Nat.reduceLeDiff, Int.reduceLE, Int.reduceLT, Int.reduceToNat, hn, g1, g2, g3, g8, g9, g10, g11, LP, lp, o1, o2, o3]
        refine (parent_x b.id (hm.ext EH (Nat.le_refl _)) hl hbs).mono ?_
        rintro _ h4 ⟨e4, vc, vd, rfl, d1, d2⟩
        have r1 := d1.one
        have r2 := d2.one
        have B4 := (e4.2 _ lb).trans B
        have lb4 := at_lt B4
        simp only [core, Nat.reduceAdd, Nat.reduceSub, Nat.reduceMul, Nat.reduceLT, Nat.reduceEqDiff, reduceCtorEq, Nat.reduceLeDiff, Int.reduceLE, Int.reduceLT, Int.reduceToNat, hn, g1, g2, g3, g8, g9, g10, g11, bktV, r1, r2, B4, lb4]
        refine ih n _ _ ⟨b.id, b.kind, vc, vd, by rw [n_put]; exact lb4, fun x hx => (at_put_ne _ (by omega)).trans ((e4.2 x (by omega)).trans (hk x hx)), z7, by omega, by omega, by omega, hU, r1, r2, at_put_same _ lb4, ?_⟩ (by omega)
        simp only [core, Nat.reduceAdd, Nat.reduceSub, Nat.reduceMul, Nat.reduceLT, Nat.reduceEqDiff, reduceCtorEq, Nat.reduceLeDiff, Int.reduceLE, Int.reduceLT, Int.reduceToNat, hn, g1, g2, g3, g8, g9, g10, g11]
  · refine ⟨osd, 0, va, vw, by rw [n_push]; omega, fun b hb => at_push_lt _ hb, ?_, by omega, by omega, by omega, rfl, q1, q2, at_push_n _ _, ?_⟩
    · unfold kindF; rw [if_pos (by omega), if_pos (by omega)]
    · simp only [core, Nat.reduceAdd, Nat.reduceSub, Nat.reduceMul, Nat.reduceLT, Nat.reduceEqDiff, reduceCtorEq, Nat.reduceLeDiff, Int.reduceLE, Int.reduceLT, Int.reduceToNat]
end Go.Proofs.YtkgbeihcepociaaDoor.Ex
end

section

set_option linter.unusedSimpArgs false
set_option linter.unusedVariables false
set_option maxRecDepth 10000
set_option maxHeartbeats 4000000
namespace Go.Proofs.YtkgbeihcepociaaDoor.Ex
open Go
section
variable {P : Program} {T : TT} {t : TM} {h : AH} {d : Option Tmp} {ty : TypeId} {ps : String} {af : Array Edge} {g : Option (Nat × Bool)}
theorem pur_sadd {e : TypeId} {a b : ByteArray} (hs : a.size + b.size ≤ 4611686018427387904) : pur P (binOp .add e (Value.string a) (Value.string b)) = some (.ok (Value.string (a ++ b))) := by
  show pur P (if ((a.size + b.size : Nat) : Int) > IntKind.i64.max then _ else pure (Value.string (a ++ b))) = _
  rw [if_neg (by show ¬ ((9223372036854775807 : Int) < _); omega)]
  rfl
/-- One of four names. -/
def nmM (h : AH) (r : AR) : AV → AV → AR
  | .agg [.lit (.string a), .lit (.string b), .lit (.string c), .lit (.string e)], .lit (.int _ n) => if 0 ≤ n ∧ n ≤ 3 then some (.val (.lit (.string (if n = 0 then a else if n = 1 then b else if n = 2 then c else e))), h) else r
  | _, _ => r
theorem nmM_eq {r : AR} {a b c e : ByteArray} {k : IntKind} {n : Int} : nmM h r (.agg [.lit (.string a), .lit (.string b), .lit (.string c), .lit (.string e)]) (.lit (.int k n)) = if 0 ≤ n ∧ n ≤ 3 then some (.val (.lit (.string (if n = 0 then a else if n = 1 then b else if n = 2 then c else e))), h) else r := rfl
theorem a_idx_nm {i j : Nat} : aop Tryd.prog (tabOf Tryd.prog NT0) ⟨d, .index 60 (.tmp i) (.tmp j), ty, ps, af, g⟩ t h = nmM h (aIdxR Tryd.prog (tabOf Tryd.prog NT0) ⟨d, .index 60 (.tmp i) (.tmp j), ty, ps, af, g⟩ t h 60 (.tmp i) (.tmp j)) (t.get i) (t.get j) := by
  unfold nmM
  split
  · rename_i a b c e k n h1 h2
    split
    · rename_i hn
      show aIndex _ _ _ _ _ _ _ _ = _
      have e1 : litEnv t (.tmp i) = .agg #[.string a, .string b, .string c, .string e] := by simp [litEnv, ev_tmp, h1, toVal, toScals, scal]
      have e2 : litEnv t (.tmp j) = .int k n := by simp [litEnv, ev_tmp, h2, toVal]
      have hcase : n = 0 ∨ n = 1 ∨ n = 2 ∨ n = 3 := by omega
      have key : ∀ s, pur Tryd.prog (Instr.index 60 (.agg #[.string a, .string b, .string c, .string e]) (.int k n)) = some (.ok (.string s)) → aIndex Tryd.prog (tabOf Tryd.prog NT0) ⟨d, .index 60 (.tmp i) (.tmp j), ty, ps, af, g⟩ t h 60 (.tmp i) (.tmp j) = some (.val (.lit (.string s)), h) := fun s he => by
        have hk : ∀ (f : Value → Sem Next), pur Tryd.prog (Instr.index 60 (.agg #[.string a, .string b, .string c, .string e]) (.int k n) >>= f) = pur Tryd.prog (f (.string s)) := fun f => by
          generalize Instr.index 60 (.agg #[.string a, .string b, .string c, .string e]) (.int k n) = q at he
          induction q with
          | pure x => simp [pur] at he; subst he; rfl
          | halt r => cases r <;> simp [pur] at he
          | program k ih => exact ih _ he
          | mark e k ih => exact ih he
          | _ => simp [pur] at he
        have h0 : litOp Tryd.prog ⟨d, .index 60 (.tmp i) (.tmp j), ty, ps, af, g⟩ t = some (.val (.lit (.string s))) := by
          unfold litOp
          rw [if_pos (by simp [notSelect, Op.operands, litAll, ev_tmp, h1, h2, toVal, toScals, scal])]
          simp only [execOp, e1, e2, hk]
          rfl
        unfold aIndex orLit
        rw [h0]
      rcases hcase with rfl | rfl | rfl | rfl
      · exact key a (by kernel_rfl)
      · exact key b (by kernel_rfl)
      · exact key c (by kernel_rfl)
      · exact key e (by kernel_rfl)
    · rfl
  · rfl
theorem ofPV_str {s : ByteArray} : ofPV h (some (.ok (Value.string s))) = some (.val (.lit (.string s)), h) := rfl
end
theorem str_size (a b : ByteArray) : (a ++ b).size = a.size + b.size := ByteArray.size_append
def itoaB (n : Int) : ByteArray := ⟨(Lib.itoa n).toArray⟩
theorem itoaB_size {n : Int} (h : I64 n) : (itoaB n).size ≤ 21 := by
  show (Lib.itoa n).toArray.size ≤ 21
  rw [List.size_toArray]
  exact Lib.itoa_length_le n h.1 (by have := h.2; omega)
def nameF (k : Int) : ByteArray := if k = 0 then ⟨#[111, 115, 100]⟩ else if k = 1 then ⟨#[104, 111, 115, 116]⟩ else if k = 2 then ⟨#[114, 97, 99, 107]⟩ else ⟨#[114, 111, 111, 116]⟩
theorem nameF_size (k : Int) : (nameF k).size ≤ 4 := by
  unfold nameF
  split
  · decide
  · split
    · decide
    · split
      · decide
      · decide
def lineF (ahead : ByteArray) (k id w : Int) : ByteArray := ahead ++ nameF k ++ ⟨#[32]⟩ ++ itoaB id ++ ⟨#[32]⟩ ++ itoaB w
/-- All of a row of lists, up to a place. -/
def upto (f : Nat → List ByteArray) (i : Nat) : List ByteArray := (List.range i).flatMap f
/-- The lines of an item. -/
def tellF (m : MapD) : Nat → Int → Int → ByteArray → List ByteArray
  | 0, _, _, _ => []
  | n + 1, id, w, ahead => lineF ahead (bucketG m id).kind id w :: upto (fun k => tellF m n ((bucketG m id).items.getD k 0) ((bucketG m id).weights.getD k 0) (ahead ++ ⟨#[32, 32]⟩)) (bucketG m id).items.length
theorem kindG {m : MapD} (hg : goodF m = true) {a : Int} (h0 : 0 ≤ kindF m a) : (bucketG m a).kind = kindF m a := by
  unfold kindF at h0 ⊢
  by_cases ha : 0 ≤ a
  · rw [if_pos ha] at h0 ⊢
    have hb : bucketF m a = none := by
      cases hb : bucketF m a with
      | none => rfl
      | some b =>
        obtain ⟨u1, u2, u3, u4, u5, u6, u7, u8⟩ := good_bkt hg hb
        have : b.id = a := by
          exact u2
        omega
    have e : bucketG m a = bkt0 := by unfold bucketG; rw [hb]; rfl
    rw [e]
    split at h0
    · rename_i h8; rw [if_pos h8]; rfl
    · omega
  · rw [if_neg ha] at h0 ⊢
    split at h0
    · rename_i h8; rw [if_pos h8]
    · omega
theorem item_kindF {m : MapD} (hg : goodF m = true) {a : Int} {b : BktD} (hb : bucketF m a = some b) {i : Nat} (hi : i < b.items.length) : 0 ≤ kindF m (b.items.getD i 0) ∧ kindF m (b.items.getD i 0) < b.kind := by
  obtain ⟨u1, u2, u3, u4, u5, u6, u7, u8⟩ := good_bkt hg hb
  exact u7 i hi
/-- What stands while a hierarchy is told. -/
structure TwAt (F : Nat → Prop) (h : AH) (m : MapD) (vo vp vb : AV) (e : TypeId) (pm po pt : Nat) : Prop where
  tab : h.at 1 = some (.frz tabL e)
  box : h.at pm = some (.cells [.lit (.int .i64 m.epoch), vo, vp, vb, .lit (.int .i64 m.leaf)] 26)
  fn : h.at pt = some (.cells [.fn (.func 28) [] [.ptr pm 0, .ptr po 0, .ptr pt 0]] 57)
  mp : MpAt F h m vo vp vb
theorem TwAt.keep {F : Nat → Prop} {h h' : AH} {m : MapD} {vo vp vb : AV} {e : TypeId} {pm po pt : Nat} (hF : ∀ b, F b → b < pm) (h1 : 1 < pm) (h2 : pm < po) (h3 : po < pt) (hw : TwAt F h m vo vp vb e pm po pt) (hk : ∀ b, b ≤ pt → b ≠ po → h'.at b = h.at b) : TwAt F h' m vo vp vb e pm po pt :=
  ⟨(hk 1 (by omega) (by omega)).trans hw.tab, (hk pm (by omega) (by omega)).trans hw.box, (hk pt (by omega) (by omega)).trans hw.fn,
   ⟨hw.mp.o.lift fun b hb _ => ⟨hk b (by have := hF b hb; omega) (by have := hF b hb; omega), hb⟩, hw.mp.p.lift fun b hb _ => ⟨hk b (by have := hF b hb; omega) (by have := hF b hb; omega), hb⟩, hw.mp.b.lift fun b hb _ => ⟨hk b (by have := hF b hb; omega) (by have := hF b hb; omega), hb⟩⟩⟩
/-- Blocks but two are as they were. -/
def FrS (po : Nat) (h : AH) (v : AV) (h' : AH) (v' : AV) : Prop := h.n ≤ h'.n ∧ ∀ b, b < h.n → b ≠ po → Apart v b → h'.at b = h.at b ∧ Apart v' b
theorem FrS.refl {po : Nat} {h : AH} {v : AV} : FrS po h v h v := ⟨Nat.le_refl _, fun b _ _ ha => ⟨rfl, ha⟩⟩
theorem FrS.trans {po : Nat} {h h1 h2 : AH} {v v1 v2 : AV} (a : FrS po h v h1 v1) (b : FrS po h1 v1 h2 v2) : FrS po h v h2 v2 :=
  ⟨Nat.le_trans a.1 b.1, fun x hx hp ha => by
    obtain ⟨q1, q2⟩ := a.2 x hx hp ha
    obtain ⟨q3, q4⟩ := b.2 x (Nat.lt_of_lt_of_le hx a.1) hp q2
    exact ⟨q3.trans q1, q4⟩⟩
theorem FrS.ext {po : Nat} {h h1 : AH} {v : AV} (e : Ext h.n h h1) : FrS po h v h1 v := ⟨e.1, fun b hb _ ha => ⟨e.2 b hb, ha⟩⟩
theorem OwnL.aparts {α : Type} {R : Rep α} {G : Nat → Prop} {n0 : Nat} {h : AH} {v : AV} {e : TypeId} {xs : List α} (ho : OwnL R G n0 h v e xs) {b : Nat} (hb : b < n0) : Apart v b := fun off n cap hv => by
  obtain ⟨L, h1, h2⟩ := ho
  rcases h1.2 with ⟨hh, _⟩ | ⟨p, hh, hp, hat⟩
  · rw [hh] at hv; cases hv
  · rw [hh] at hv; cases hv; omega
theorem upto_split (f : Nat → List ByteArray) {i n : Nat} (h : i ≤ n) : ∃ r, upto f n = upto f i ++ r := by
  refine ⟨((List.range n).drop i).flatMap f, ?_⟩
  unfold upto
  rw [← List.flatMap_append]
  congr 1
  rw [show List.range i = (List.range n).take i by rw [List.take_range, Nat.min_eq_left h]]
  exact (List.take_append_drop _ _).symm
theorem upto_succ (f : Nat → List ByteArray) (i : Nat) : upto f (i + 1) = upto f i ++ f i := by
  unfold upto
  rw [List.range_succ, List.flatMap_append]
  simp
theorem FrS.put {po : Nat} {h : AH} {v : AV} {x : AB} : FrS po h v (h.put po x) v := ⟨by rw [n_put]; exact Nat.le_refl _, fun b _ hb ha => ⟨at_put_ne _ (fun e => hb e.symm), ha⟩⟩
theorem tell_x {F : Nat → Prop} {m : MapD} {vo vp vb : AV} {e : TypeId} {pm po pt : Nat} (hF : ∀ b, F b → b < pm) (p1 : 1 < pm) (p2 : pm < po) (p3 : po < pt) (hok : OkM m) (hg : goodF m = true) :
    ∀ (n : Nat) {H : AH} {vs : AV} {xs : List ByteArray} (id w : Int) (ahead : ByteArray), (bucketG m id).kind < (n : Int) → ahead.size + 2 * n ≤ 1000 → I64 id → I64 w → TwAt F H m vo vp vb e pm po pt →
      H.at po = some (.cells [vs] 35) → OwnL RStr (fun _ => False) (pt + 1) H vs 9 xs → xs.length + (tellF m n id w ahead).length ≤ 1099511627776 →
      WC Tryd.prog (tabOf Tryd.prog NT0) S0 28 [.lit (.int .i64 id), .lit (.int .i64 w), .lit (.string ahead), .ptr pm 0, .ptr po 0, .ptr pt 0] H fun r h' => r = .tup [] ∧ ∃ vs', FrS po H vs h' vs' ∧ h'.at po = some (.cells [vs'] 35) ∧ OwnL RStr (fun _ => False) (pt + 1) h' vs' 9 (xs ++ tellF m n id w ahead)
  | 0, H, vs, xs, id, w, ahead, hk, _, _, _, _, _, _, _ => by
    have : 0 ≤ (bucketG m id).kind := by
      cases hb : bucketF m id with
      | none => rw [show bucketG m id = bkt0 by unfold bucketG; rw [hb]; rfl]; decide
      | some b =>
        rw [show bucketG m id = b by unfold bucketG; rw [hb]; rfl]
        obtain ⟨u1, u2, u3, u4, u5, u6, u7, u8⟩ := good_bkt hg hb
        omega
    omega
  | n + 1, H, vs, xs, id, w, ahead, hk, hsz, i1, i2, hw, hpo, ho, hlen => by
    refine WC_fn Tryd.func28 rfl rfl ?_
    obtain ⟨hl, hbs, -⟩ := _root_.id hok
    have o1 := hw.mp.o.one
    have o2 := hw.mp.p.one
    have o3 := hw.mp.b.one
    have LB := ld_at (T := tabOf Tryd.prog NT0) hw.box
    have lb := at_lt hw.box
    have lt := at_lt hw.fn
    simp only [core, Nat.reduceAdd, Nat.reduceSub, Nat.reduceMul, Nat.reduceLT, Nat.reduceEqDiff, reduceCtorEq, Nat.reduceLeDiff, Int.reduceLE, Int.reduceLT, Int.reduceToNat, Tryd.ntmps28, LB, lb, o1, o2, o3]
    refine (bucket_x id hw.mp hl hbs).mono ?_
    rintro _ h1 ⟨e1, va, vw, rfl, b1, b2⟩
    have q1 := b1.one
    have q2 := b2.one
    obtain ⟨bk, hbk⟩ : ∃ bk, bk = bucketG m id := ⟨_, rfl⟩
    rw [← hbk] at b1 b2 hk
    have hk0 : 0 ≤ bk.kind ∧ bk.kind ≤ 3 := by
      rw [hbk]
      cases hb : bucketF m id with
      | none => rw [show bucketG m id = bkt0 by unfold bucketG; rw [hb]; rfl]; decide
      | some b =>
        rw [show bucketG m id = b by unfold bucketG; rw [hb]; rfl]
        obtain ⟨u1, u2, u3, u4, u5, u6, u7, u8⟩ := good_bkt hg hb
        omega
    have hG := hbk.symm
    have hk0' : (0 ≤ bk.kind ∧ bk.kind ≤ 3) = True := by simp [hk0]
    have hnm : (if bk.kind = 0 then (⟨#[111, 115, 100]⟩ : ByteArray) else if bk.kind = 1 then ⟨#[104, 111, 115, 116]⟩ else if bk.kind = 2 then ⟨#[114, 97, 99, 107]⟩ else ⟨#[114, 111, 111, 116]⟩) = nameF bk.kind := rfl
    simp only [core, Nat.reduceAdd, Nat.reduceSub, Nat.reduceMul, Nat.reduceLT, Nat.reduceEqDiff, reduceCtorEq, Nat.reduceLeDiff, Int.reduceLE, Int.reduceLT, Int.reduceToNat, bktV, q1, q2, hG, a_idx_nm, nmM_eq, hk0', hnm]
    generalize htt : TM.set _ 11 _ = tt
    have k0 : tt.get 0 = .lit (.int .i64 id) := by rw [← htt]; simp only [core, Nat.reduceAdd, Nat.reduceSub, Nat.reduceMul, Nat.reduceLT, Nat.reduceEqDiff, reduceCtorEq, Nat.reduceLeDiff, Int.reduceLE, Int.reduceLT, Int.reduceToNat]
    have k1 : tt.get 1 = .lit (.int .i64 w) := by rw [← htt]; simp only [core, Nat.reduceAdd, Nat.reduceSub, Nat.reduceMul, Nat.reduceLT, Nat.reduceEqDiff, reduceCtorEq, Nat.reduceLeDiff, Int.reduceLE, Int.reduceLT, Int.reduceToNat]
    have k2 : tt.get 2 = .lit (.string ahead) := by rw [← htt]; simp only [core, Nat.reduceAdd, Nat.reduceSub, Nat.reduceMul, Nat.reduceLT, Nat.reduceEqDiff, reduceCtorEq, Nat.reduceLeDiff, Int.reduceLE, Int.reduceLT, Int.reduceToNat]
    have k4 : tt.get 4 = .ptr po 0 := by rw [← htt]; simp only [core, Nat.reduceAdd, Nat.reduceSub, Nat.reduceMul, Nat.reduceLT, Nat.reduceEqDiff, reduceCtorEq, Nat.reduceLeDiff, Int.reduceLE, Int.reduceLT, Int.reduceToNat]
    have k5 : tt.get 5 = .ptr pt 0 := by rw [← htt]; simp only [core, Nat.reduceAdd, Nat.reduceSub, Nat.reduceMul, Nat.reduceLT, Nat.reduceEqDiff, reduceCtorEq, Nat.reduceLeDiff, Int.reduceLE, Int.reduceLT, Int.reduceToNat]
    have k9 : tt.get 9 = .ptr h1.n 0 := by rw [← htt]; simp only [core, Nat.reduceAdd, Nat.reduceSub, Nat.reduceMul, Nat.reduceLT, Nat.reduceEqDiff, reduceCtorEq, Nat.reduceLeDiff, Int.reduceLE, Int.reduceLT, Int.reduceToNat]
    have k11 : tt.get 11 = .lit (.string (nameF bk.kind)) := by rw [← htt]; simp only [core, Nat.reduceAdd, Nat.reduceSub, Nat.reduceMul, Nat.reduceLT, Nat.reduceEqDiff, reduceCtorEq, Nat.reduceLeDiff, Int.reduceLE, Int.reduceLT, Int.reduceToNat]
    have kn : tt.n = 57 := by rw [← htt]; simp only [core, Nat.reduceAdd, Nat.reduceSub, Nat.reduceMul, Nat.reduceLT, Nat.reduceEqDiff, reduceCtorEq, Nat.reduceLeDiff, Int.reduceLE, Int.reduceLT, Int.reduceToNat]
    clear htt
    obtain ⟨h2, hh2⟩ : ∃ h2, h2 = h1.push (.cells [.lit (.int .i64 bk.id), .lit (.int .i64 bk.kind), va, vw] 47) := ⟨_, rfl⟩
    have e2 : Ext h1.n h1 h2 := hh2 ▸ (Ext.refl _ _).push _ (Nat.le_refl _)
    have P2 : h2.at h1.n = some (.cells [.lit (.int .i64 bk.id), .lit (.int .i64 bk.kind), va, vw] 47) := hh2 ▸ at_push_n _ _
    have LP2 := ld_at (T := tabOf Tryd.prog NT0) P2
    have lp2 := at_lt P2
    rw [← hh2]
    clear hh2
    have E2 := e1.step e2
    have O2 := (E2.2 _ (at_lt hpo)).trans hpo
    have LO2 := ld_at (T := tabOf Tryd.prog NT0) O2
    have lo2 := at_lt O2
    have T2 := (E2.2 _ (at_lt hw.tab)).trans hw.tab
    have ho2 := ho.ext E2 (Nat.le_refl _)
    have v1 := (ho2.toSl (F := fun _ => True) (fun _ _ => trivial) (fun _ _ => trivial)).isSl
    have v2 := (ho2.toSl (F := fun _ => True) (fun _ _ => trivial) (fun _ _ => trivial)).one
    have z1 := itoaB_size i1
    have z2 := itoaB_size i2
    have z3 := nameF_size bk.kind
    have a1 : ∀ T : Program, pur T (binOp .add 9 (Value.string ahead) (Value.string (nameF bk.kind))) = some (.ok (Value.string (ahead ++ nameF bk.kind))) := fun _ => pur_sadd (by omega)
    have a2 : ∀ T : Program, pur T (binOp .add 9 (Value.string (ahead ++ nameF bk.kind)) (Value.string ⟨#[32]⟩)) = some (.ok (Value.string (ahead ++ nameF bk.kind ++ ⟨#[32]⟩))) := fun _ => pur_sadd (by rw [str_size]; show _ + 1 ≤ _; omega)
    have a3 : ∀ T : Program, pur T (binOp .add 9 (Value.string (ahead ++ nameF bk.kind ++ ⟨#[32]⟩)) (Value.string (itoaB id))) = some (.ok (Value.string (ahead ++ nameF bk.kind ++ ⟨#[32]⟩ ++ itoaB id))) := fun _ => pur_sadd (by rw [str_size, str_size]; show _ + 1 + _ ≤ _; omega)
    have a4 : ∀ T : Program, pur T (binOp .add 9 (Value.string (ahead ++ nameF bk.kind ++ ⟨#[32]⟩ ++ itoaB id)) (Value.string ⟨#[32]⟩)) = some (.ok (Value.string (ahead ++ nameF bk.kind ++ ⟨#[32]⟩ ++ itoaB id ++ ⟨#[32]⟩))) := fun _ => pur_sadd (by rw [str_size, str_size, str_size]; show _ + 1 + _ + 1 ≤ _; omega)
    have a5 : ∀ T : Program, pur T (binOp .add 9 (Value.string (ahead ++ nameF bk.kind ++ ⟨#[32]⟩ ++ itoaB id ++ ⟨#[32]⟩)) (Value.string (itoaB w))) = some (.ok (Value.string (lineF ahead bk.kind id w))) := fun _ => pur_sadd (by rw [str_size, str_size, str_size, str_size]; show _ + 1 + _ + 1 + _ ≤ _; omega)
    rw [WB_regionD [0, 1, 2, 3, 4, 5, 9, 6, 7, 8, 10, 11, 12, 13, 14] 26958712494789967439649867661944183265723450142676564771835685634048 (by kernel_rfl)]
    repeat ((with_reducible refine WDM_cons ?_; simp only [dw1]; try simp only [dw2, Nat.reduceAdd, Nat.reduceMul, Nat.reduceShiftRight, Nat.reduceMod, Nat.reduceEqDiff]); simp only [core, Nat.reduceAdd, Nat.reduceSub, Nat.reduceMul, Nat.reduceLT, Nat.reduceEqDiff, reduceCtorEq, Nat.reduceLeDiff, Int.reduceLE, Int.reduceLT, Int.reduceToNat, cored, k0, k1, k2, k4, k5, k9, k11, kn, LO2, lo2, v1, v2, a1, a2, ofPV_str])
    refine itoa_c T2 i1.1 (by have := i1.2; omega) ?_
    have hz1 : ({ data := (Lib.itoa id).toArray } : ByteArray) = itoaB id := rfl
    have hz2 : ({ data := (Lib.itoa w).toArray } : ByteArray) = itoaB w := rfl
    rw [hz1]
    repeat ((with_reducible refine WDM_cons ?_; simp only [dw1]; try simp only [dw2, Nat.reduceAdd, Nat.reduceMul, Nat.reduceShiftRight, Nat.reduceMod, Nat.reduceEqDiff]); simp only [core, Nat.reduceAdd, Nat.reduceSub, Nat.reduceMul, Nat.reduceLT, Nat.reduceEqDiff, reduceCtorEq, Nat.reduceLeDiff, Int.reduceLE, Int.reduceLT, Int.reduceToNat, cored, k0, k1, k2, k4, k5, k9, k11, kn, LO2, lo2, v1, v2, a1, a2, a3, a4, ofPV_str])
    refine itoa_c T2 i2.1 (by have := i2.2; omega) ?_
    rw [hz2]
    repeat ((with_reducible refine WDM_cons ?_; simp only [dw1]; try simp only [dw2, Nat.reduceAdd, Nat.reduceMul, Nat.reduceShiftRight, Nat.reduceMod, Nat.reduceEqDiff]); simp only [core, Nat.reduceAdd, Nat.reduceSub, Nat.reduceMul, Nat.reduceLT, Nat.reduceEqDiff, reduceCtorEq, Nat.reduceLeDiff, Int.reduceLE, Int.reduceLT, Int.reduceToNat, cored, k0, k1, k2, k4, k5, k9, k11, kn, LO2, lo2, v1, v2, a1, a2, a3, a4, a5, ofPV_str])
    obtain ⟨h3, hh3⟩ : ∃ h3, h3 = h2.push (.cells [.lit (.string (lineF ahead bk.kind id w))] 9) := ⟨_, rfl⟩
    have e3 : Ext h2.n h2 h3 := hh3 ▸ (Ext.refl _ _).push _ (Nat.le_refl _)
    have A3 : h3.at h2.n = some (.cells [.lit (.string (lineF ahead bk.kind id w))] 9) := hh3 ▸ at_push_n _ _
    rw [← hh3]
    clear hh3
    have hE2 := E2.1
    have hE3 := e3.1
    have lpt := at_lt hw.fn
    have hTE : (tellF m (n + 1) id w ahead) = lineF ahead bk.kind id w :: upto (fun k => tellF m n (bk.items.getD k 0) (bk.weights.getD k 0) (ahead ++ ⟨#[32, 32]⟩)) bk.items.length := by rw [tellF, hG]
    obtain ⟨ff, hff⟩ : ∃ ff, ff = fun k => tellF m n (bk.items.getD k 0) (bk.weights.getD k 0) (ahead ++ ⟨#[32, 32]⟩) := ⟨_, rfl⟩
    rw [← hff] at hTE
    rw [hTE] at hlen ⊢
    have hlen1 := hlen
    rw [List.length_cons] at hlen1
    refine WOpD_app ((ho2.ext e3 (Nat.le_refl _)).snoc (by kernel_rfl) (by kernel_rfl) (by kernel_rfl) (zv := .lit (.string ⟨#[]⟩)) (by kernel_rfl) (by' := 16) (by kernel_rfl) rfl (by decide) (by decide) A3 (y := lineF ahead bk.kind id w) rfl (by omega) (by omega) (by omega)) ?_
    rintro s4 h4 ⟨ho4, e4, f4⟩
    have s41 := (ho4.toSl (F := fun _ => True) (fun _ _ => trivial) (fun _ _ => trivial)).isSl
    have s42 := (ho4.toSl (F := fun _ => True) (fun _ _ => trivial) (fun _ _ => trivial)).one
    have apo : Apart vs po := ho.aparts (by omega)
    have O4 := ((f4 po (by omega) apo).1.trans (e3.2 _ lo2)).trans O2
    have lo4 := at_lt O4
    have hn4 := e4.1
    repeat ((with_reducible refine WDM_cons ?_; simp only [dw1]; try simp only [dw2, Nat.reduceAdd, Nat.reduceMul, Nat.reduceShiftRight, Nat.reduceMod, Nat.reduceEqDiff]); simp only [core, Nat.reduceAdd, Nat.reduceSub, Nat.reduceMul, Nat.reduceLT, Nat.reduceEqDiff, reduceCtorEq, Nat.reduceLeDiff, Int.reduceLE, Int.reduceLT, Int.reduceToNat, cored, k0, k1, k2, k4, k5, k9, k11, kn, O4, lo4, s41, s42])
    obtain ⟨h5, hh5⟩ : ∃ h5, h5 = h4.put po (.cells [s4] 35) := ⟨_, rfl⟩
    have O5 : h5.at po = some (.cells [s4] 35) := hh5 ▸ at_put_same _ lo4
    have ho5 : OwnL RStr (fun _ => False) (pt + 1) h5 s4 9 (xs ++ [lineF ahead bk.kind id w]) := hh5 ▸ ho4.lift (fun b off n cap hv => at_put_ne _ (fun hh => ho4.aparts (show po < pt + 1 by omega) off n cap (by rw [hh]; exact hv))) (fun b hb => hb.elim)
    have fr5 : FrS po h2 vs h5 s4 := FrS.trans (v1 := s4) ⟨by omega, fun b hb _ ha => ⟨(f4 b (by omega) ha).1.trans (e3.2 b hb), (f4 b (by omega) ha).2⟩⟩ (hh5 ▸ FrS.put)
    have n5 : h5.n = h4.n := by rw [hh5, n_put]
    rw [← hh5]
    clear hh5
    have fr05 : FrS po H vs h5 s4 := (FrS.ext E2).trans fr5
    have q5 := fr5.2 h1.n lp2 (by have := at_lt hpo; have := e1.1; omega) (ho.apart e1.1)
    have P5 := q5.1.trans P2
    have LP5 := ld_at (T := tabOf Tryd.prog NT0) P5
    have lp5 := at_lt P5
    have c1 := b1.isSl
    have c2 := b1.lenD
    have d1 := b2.isSl
    have d2 := b2.lenD
    simp only [core, Nat.reduceAdd, Nat.reduceSub, Nat.reduceMul, Nat.reduceLT, Nat.reduceEqDiff, reduceCtorEq, Nat.reduceLeDiff, Int.reduceLE, Int.reduceLT, Int.reduceToNat, kn, k2, k5, k9, LP5, lp5, c1, c2]
    have hil : bk.items.length ≤ 17592186044416 ∧ bk.items.length = bk.weights.length := by
      rw [← hG]
      cases hb : bucketF m id with
      | none => rw [show bucketG m id = bkt0 by unfold bucketG; rw [hb]; rfl]; decide
      | some b =>
        rw [show bucketG m id = b by unfold bucketG; rw [hb]; rfl]
        obtain ⟨u1, u2, u3, u4, u5, u6, u7, u8⟩ := good_bkt hg hb
        obtain ⟨w1, w2⟩ := hbs b u1
        unfold Sm at w1
        exact ⟨by omega, u6⟩
    refine WB_for bk.items.length (fun i t h => (∃ s', FrS po h5 s4 h s' ∧ h.at po = some (.cells [s'] 35) ∧ OwnL RStr (fun _ => False) (pt + 1) h s' 9 (xs ++ lineF ahead bk.kind id w :: upto ff i)) ∧ t.n = 57 ∧ t.get 2 = .lit (.string ahead) ∧ t.get 5 = .ptr pt 0 ∧ t.get 9 = .ptr h1.n 0 ∧ t.get 39 = va ∧ t.get 40 = .lit (.int .i64 bk.items.length) ∧ t.get 41 = .lit (.int .i64 i)) ?_ ?_ _ _ ?_
    · rintro i t h hlt hc ⟨⟨s', fr, hpo', ho'⟩, hn, g2, g5, g9, g39, g40, g41⟩ ih
      have hge : ∀ b, H.n ≤ b → b < h2.n → h.at b = h2.at b := fun b hb1 hb2 => by
        have hpn : b ≠ po := by have := at_lt hpo; omega
        obtain ⟨w1, w2⟩ := fr5.2 b hb2 hpn (ho.apart hb1)
        exact (fr.2 b (by have := fr5.1; omega) hpn w2).1.trans w1
      have hlo : ∀ b, b ≤ pt → b ≠ po → h.at b = H.at b := fun b hb hne => ((fr05.trans fr).2 b (by omega) hne (ho.aparts (by omega))).1
      have hwh := hw.keep hF p1 p2 p3 hlo
      have P := (hge h1.n e1.1 lp2).trans P2
      have LP := ld_at (T := tabOf Tryd.prog NT0) P
      have lp := at_lt P
      have LT := ld_at (T := tabOf Tryd.prog NT0) hwh.fn
      have lt := at_lt hwh.fn
      have hva : IsSl RInt (fun _ => True) h va bk.items := b1.lift fun b hb hlt1 => ⟨(hge b hb (by have := e2.1; omega)).trans (e2.2 b hlt1), trivial⟩
      have hvw : IsSl RInt (fun _ => True) h vw bk.weights := b2.lift fun b hb hlt1 => ⟨(hge b hb (by have := e2.1; omega)).trans (e2.2 b hlt1), trivial⟩
      have hlt2 : i < bk.weights.length := by omega
      have hldi := hva.int (T := tabOf Tryd.prog NT0) (e := 3) (by kernel_rfl) (by kernel_rfl) hlt
      have hldw := hvw.int (T := tabOf Tryd.prog NT0) (e := 3) (by kernel_rfl) (by kernel_rfl) hlt2
      have hws := wrap_succ hlt (by omega)
      have hx : bucketF m id = some bk := by
        rw [← hG]
        unfold bucketG
        cases hb : bucketF m id with
        | none =>
          rw [show bucketG m id = bkt0 by unfold bucketG; rw [hb]; rfl] at hG
          rw [← hG] at hlt
          simp [bkt0] at hlt
        | some b => rfl
      obtain ⟨y1, y2⟩ := item_kindF hg hx hlt
      have a6 : ∀ T : Program, pur T (binOp .add 9 (Value.string ahead) (Value.string ⟨#[32, 32]⟩)) = some (.ok (Value.string (ahead ++ ⟨#[32, 32]⟩))) := fun _ => pur_sadd (by show _ + 2 ≤ _; omega)
      simp only [core, Nat.reduceAdd, Nat.reduceSub, Nat.reduceMul, Nat.reduceLT, Nat.reduceEqDiff, reduceCtorEq, Nat.reduceLeDiff, Int.reduceLE, Int.reduceLT, Int.reduceToNat, hn, g2, g5, g9, g39, g40, g41, hlt, hc, hldi, c1, c2]
      rw [WB_regionD [0, 1, 2, 3, 4, 5, 6, 7, 8, 9] 632742102648946808485912248320 (by kernel_rfl)]
      repeat ((with_reducible refine WDM_cons ?_; simp only [dw1]; try simp only [dw2, Nat.reduceAdd, Nat.reduceMul, Nat.reduceShiftRight, Nat.reduceMod, Nat.reduceEqDiff]); simp only [core, Nat.reduceAdd, Nat.reduceSub, Nat.reduceMul, Nat.reduceLT, Nat.reduceEqDiff, reduceCtorEq, Nat.reduceLeDiff, Int.reduceLE, Int.reduceLT, Int.reduceToNat, cored, hn, g2, g5, g9, g39, g40, g41, LP, lp, LT, lt, c1, c2, d1, d2, hlt2, hldw, a6, ofPV_str])
      refine ⟨by simp [AV.same, fnEq], ?_⟩
      have hkc : (bucketG m (bk.items.getD i 0)).kind < (n : Int) := by rw [kindG hg y1]; omega
      have hpre : (upto ff (i + 1)).length ≤ (upto ff bk.items.length).length := by
        obtain ⟨r, hr⟩ := upto_split ff (show i + 1 ≤ bk.items.length from hlt)
        rw [hr, List.length_append]
        omega
      have hus := upto_succ ff i
      have hfi : ff i = tellF m n (bk.items.getD i 0) (bk.weights.getD i 0) (ahead ++ ⟨#[32, 32]⟩) := by rw [hff]
      rw [hus, List.length_append, hfi] at hpre
      refine (tell_x hF p1 p2 p3 hok hg n (bk.items.getD i 0) (bk.weights.getD i 0) (ahead ++ ⟨#[32, 32]⟩) hkc (by rw [str_size]; show _ + 2 + _ ≤ _; omega) (b1.i64 i hlt) (b2.i64 i hlt2) hwh hpo' ho' (by rw [List.length_append, List.length_cons]; omega)).mono ?_
      rintro _ h6 ⟨rfl, s6, fr6, hpo6, ho6⟩
      simp only [core, Nat.reduceAdd, Nat.reduceSub, Nat.reduceMul, Nat.reduceLT, Nat.reduceEqDiff, reduceCtorEq, Nat.reduceLeDiff, Int.reduceLE, Int.reduceLT, Int.reduceToNat, hn, g2, g5, g9, g39, g40, g41, hws]
      refine ih _ _ ⟨⟨s6, fr.trans fr6, hpo6, ?_⟩, ?_⟩
      · rw [hus, hfi]
        rw [List.append_assoc] at ho6
        exact ho6
      · simp only [core, Nat.reduceAdd, Nat.reduceSub, Nat.reduceMul, Nat.reduceLT, Nat.reduceEqDiff, reduceCtorEq, Nat.reduceLeDiff, Int.reduceLE, Int.reduceLT, Int.reduceToNat, hn, g2, g5, g9, g39, g40, g41]
    · rintro t h hc ⟨⟨s', fr, hpo', ho'⟩, hn, g2, g5, g9, g39, g40, g41⟩
      simp only [core, Nat.reduceAdd, Nat.reduceSub, Nat.reduceMul, Nat.reduceLT, Nat.reduceEqDiff, reduceCtorEq, Nat.reduceLeDiff, Int.reduceLE, Int.reduceLT, Int.reduceToNat, hn, g2, g5, g9, g39, g40, g41, hc]
      exact ⟨.inl trivial, s', fr05.trans fr, hpo', ho'⟩
    · refine ⟨⟨s4, FrS.refl, O5, ?_⟩, ?_⟩
      · have : upto ff 0 = [] := rfl
        rw [this]
        exact ho5
      · simp only [core, Nat.reduceAdd, Nat.reduceSub, Nat.reduceMul, Nat.reduceLT, Nat.reduceEqDiff, reduceCtorEq, Nat.reduceLeDiff, Int.reduceLE, Int.reduceLT, Int.reduceToNat, kn, k2, k5, k9]
        rfl
end Go.Proofs.YtkgbeihcepociaaDoor.Ex
end

section

set_option linter.unusedSimpArgs false
set_option linter.unusedVariables false
set_option maxRecDepth 10000
set_option maxHeartbeats 8000000
namespace Go.Proofs.YtkgbeihcepociaaDoor.Ex
open Go
/-- A chooser's cells. -/
def chC (m : MapD) (vo vp vb : AV) (x : Int) (vs vq : AV) : List AV := [.lit (.int .i64 m.epoch), vo, vp, vb, .lit (.int .i64 m.leaf), .lit (.int .u32 x), vs, vq]
theorem takes_x {F G : Nat → Prop} {H : AH} {m : MapD} {vo vp vb vs vq : AV} {x : Int} {os : List Int} {p k : Nat} (hm : MpAt F H m vo vp vb) (hl : Sm 40 m.osds) (hp : H.at p = some (.cells (chC m vo vp vb x vs vq) 52)) (hs : IsSl RInt G H vs os) (hsl : os.length ≤ 1000) :
    WC Tryd.prog (tabOf Tryd.prog NT0) S0 54 [.ptr p 0, .lit (.int .i64 k)] H fun r h' => Ext H.n H h' ∧ r = .lit (.bool (mayF m k x && !os.contains (k : Int))) := by
  refine WC_fn Tryd.func54 rfl rfl ?_
  unfold Sm at hl
  unfold chC at hp
  have s1 := hm.o.isSl
  have s2 := hm.o.lenD
  have s3 := hs.isSl
  have lp := at_lt hp
  have LP := ld_at (T := tabOf Tryd.prog NT0) hp
  by_cases hk : k < m.osds.length
  rotate_left
  · have c1 : (m.osds.length : Int) ≤ (k : Int) := by omega
    simp only [core, Nat.reduceAdd, Nat.reduceSub, Nat.reduceMul, Nat.reduceLT, Nat.reduceEqDiff, reduceCtorEq, Nat.reduceLeDiff, Int.reduceLE, Int.reduceLT, Int.reduceToNat, Tryd.ntmps54, LP, lp, s1, s2, c1]
    refine ⟨Ext.refl _ _, ?_⟩
    have : m.osds[k]? = none := List.getElem?_eq_none (by omega)
    unfold mayF
    rw [if_pos (by omega), Int.toNat_natCast, this]
    rfl
  have c1 : ¬ (m.osds.length : Int) ≤ (k : Int) := by omega
  obtain ⟨o, ho⟩ : ∃ o, m.osds[k]? = some o := ⟨_, List.getElem?_eq_getElem hk⟩
  have hres : mayF m (k : Int) x = mayO o (k : Int) x := by unfold mayF; rw [if_pos (by omega), Int.toNat_natCast, ho]
  simp only [core, Nat.reduceAdd, Nat.reduceSub, Nat.reduceMul, Nat.reduceLT, Nat.reduceEqDiff, reduceCtorEq, Nat.reduceLeDiff, Int.reduceLE, Int.reduceLT, Int.reduceToNat, Tryd.ntmps54, LP, lp, s1, s2, c1]
  refine (contains_x (k : Int) hs (by omega)).mono ?_
  rintro _ h1 ⟨rfl, rfl⟩
  cases hco : os.contains (k : Int) with
  | true =>
    simp only [core, Nat.reduceAdd, Nat.reduceSub, Nat.reduceMul, Nat.reduceLT, Nat.reduceEqDiff, reduceCtorEq, Nat.reduceLeDiff, Int.reduceLE, Int.reduceLT, Int.reduceToNat]
    exact Ext.refl _ _
  | false =>
  obtain ⟨c, hc1, hld, hld0⟩ := hm.o.atE (T := tabOf Tryd.prog NT0) (Ext.refl _ _) ROsd_z ho
  obtain ⟨rfl, -⟩ := ROsd_is.1 hc1
  simp only [core, Nat.reduceAdd, Nat.reduceSub, Nat.reduceMul, Nat.reduceLT, Nat.reduceEqDiff, reduceCtorEq, Nat.reduceLeDiff, Int.reduceLE, Int.reduceLT, Int.reduceToNat, LP, lp, s1, s2, hk, hld, hld0]
  obtain ⟨hA, hhA⟩ : ∃ hA, hA = h1.push (.cells [.lit (.bool o.ex), .lit (.bool o.up), .lit (.int .i64 o.weight), .lit (.int .i64 o.boot), .lit (.int .i64 o.upFrom), .lit (.int .i64 o.upThru)] 42) := ⟨_, rfl⟩
  have EA : Ext h1.n h1 hA := hhA ▸ (Ext.refl _ _).push _ (Nat.le_refl _)
  have PA : hA.at h1.n = some (.cells [.lit (.bool o.ex), .lit (.bool o.up), .lit (.int .i64 o.weight), .lit (.int .i64 o.boot), .lit (.int .i64 o.upFrom), .lit (.int .i64 o.upThru)] 42) := hhA ▸ at_push_n _ _
  have LA := ld_at (T := tabOf Tryd.prog NT0) PA
  have la := at_lt PA
  have PC := (EA.2 _ lp).trans hp
  have LC := ld_at (T := tabOf Tryd.prog NT0) PC
  have lc := at_lt PC
  rw [← hhA]
  clear hhA
  rw [WB_regionD [0, 1, 2, 3, 4, 5, 6, 7, 8, 9, 10, 11, 13, 14, 15, 16, 17, 18, 22, 23, 12, 19, 20, 21, 24, 25, 26] 1412006963573700906660700069524118243616869760544256360968249721346466011565351973626593501215177518672908580619239046012223972200766817852166722705780488590525571064120266307589064219363529374100029332153996355833954304 (by kernel_rfl)]
  cases hex : o.ex with
  | false =>
    repeat (first | ((with_reducible refine WDM_cons ?_; simp only [dw1]; try simp only [dw2, Nat.reduceAdd, Nat.reduceMul, Nat.reduceShiftRight, Nat.reduceMod, Nat.reduceEqDiff]); simp only [core, Nat.reduceAdd, Nat.reduceSub, Nat.reduceMul, Nat.reduceLT, Nat.reduceEqDiff, reduceCtorEq, Nat.reduceLeDiff, Int.reduceLE, Int.reduceLT, Int.reduceToNat, cored, LA, la, hex]) | simp only [core, Nat.reduceAdd, Nat.reduceSub, Nat.reduceMul, Nat.reduceLT, Nat.reduceEqDiff, reduceCtorEq, Nat.reduceLeDiff, Int.reduceLE, Int.reduceLT, Int.reduceToNat, cored, LA, la, hex])
    exact ⟨EA, by rw [hres]; unfold mayO; rw [hex]; rfl⟩
  | true =>
  cases hup : o.up with
  | false =>
    repeat (first | ((with_reducible refine WDM_cons ?_; simp only [dw1]; try simp only [dw2, Nat.reduceAdd, Nat.reduceMul, Nat.reduceShiftRight, Nat.reduceMod, Nat.reduceEqDiff]); simp only [core, Nat.reduceAdd, Nat.reduceSub, Nat.reduceMul, Nat.reduceLT, Nat.reduceEqDiff, reduceCtorEq, Nat.reduceLeDiff, Int.reduceLE, Int.reduceLT, Int.reduceToNat, cored, LA, la, hex, hup]) | simp only [core, Nat.reduceAdd, Nat.reduceSub, Nat.reduceMul, Nat.reduceLT, Nat.reduceEqDiff, reduceCtorEq, Nat.reduceLeDiff, Int.reduceLE, Int.reduceLT, Int.reduceToNat, cored, LA, la, hex, hup])
    exact ⟨EA, by rw [hres]; unfold mayO; rw [hex, hup]; rfl⟩
  | true =>
  by_cases hwt : 0 < o.weight
  · repeat (first | ((with_reducible refine WDM_cons ?_; simp only [dw1]; try simp only [dw2, Nat.reduceAdd, Nat.reduceMul, Nat.reduceShiftRight, Nat.reduceMod, Nat.reduceEqDiff]); simp only [core, Nat.reduceAdd, Nat.reduceSub, Nat.reduceMul, Nat.reduceLT, Nat.reduceEqDiff, reduceCtorEq, Nat.reduceLeDiff, Int.reduceLE, Int.reduceLT, Int.reduceToNat, cored, LA, la, LC, lc, hex, hup, hwt]) | simp only [core, Nat.reduceAdd, Nat.reduceSub, Nat.reduceMul, Nat.reduceLT, Nat.reduceEqDiff, reduceCtorEq, Nat.reduceLeDiff, Int.reduceLE, Int.reduceLT, Int.reduceToNat, cored, LA, la, LC, lc, hex, hup, hwt])
    refine new_x.mono ?_
    rintro _ h2 ⟨q, rfl, e2⟩
    have E2 := EA.step e2
    have P2 := (e2.2 _ la).trans PA
    have L2 := ld_at (T := tabOf Tryd.prog NT0) P2
    have l2 := at_lt P2
    have C2 := (e2.2 _ lc).trans PC
    have LC2 := ld_at (T := tabOf Tryd.prog NT0) C2
    have lc2 := at_lt C2
    have h65 : ¬ (65536 : Int) = 0 := by decide
    repeat (first | ((with_reducible refine WDM_cons ?_; simp only [dw1]; try simp only [dw2, Nat.reduceAdd, Nat.reduceMul, Nat.reduceShiftRight, Nat.reduceMod, Nat.reduceEqDiff]); simp only [core, Nat.reduceAdd, Nat.reduceSub, Nat.reduceMul, Nat.reduceLT, Nat.reduceEqDiff, reduceCtorEq, Nat.reduceLeDiff, Int.reduceLE, Int.reduceLT, Int.reduceToNat, cored, L2, l2, LC2, lc2, hex, hup, hwt, h65]) | simp only [core, Nat.reduceAdd, Nat.reduceSub, Nat.reduceMul, Nat.reduceLT, Nat.reduceEqDiff, reduceCtorEq, Nat.reduceLeDiff, Int.reduceLE, Int.reduceLT, Int.reduceToNat, cored, L2, l2, LC2, lc2, hex, hup, hwt, h65])
    refine hash2_c ?_
    repeat (first | ((with_reducible refine WDM_cons ?_; simp only [dw1]; try simp only [dw2, Nat.reduceAdd, Nat.reduceMul, Nat.reduceShiftRight, Nat.reduceMod, Nat.reduceEqDiff]); simp only [core, Nat.reduceAdd, Nat.reduceSub, Nat.reduceMul, Nat.reduceLT, Nat.reduceEqDiff, reduceCtorEq, Nat.reduceLeDiff, Int.reduceLE, Int.reduceLT, Int.reduceToNat, cored, L2, l2, LC2, lc2, hex, hup, hwt, h65]) | simp only [core, Nat.reduceAdd, Nat.reduceSub, Nat.reduceMul, Nat.reduceLT, Nat.reduceEqDiff, reduceCtorEq, Nat.reduceLeDiff, Int.reduceLE, Int.reduceLT, Int.reduceToNat, cored, L2, l2, LC2, lc2, hex, hup, hwt, h65])
    refine ⟨E2, ?_⟩
    rw [hres]; unfold mayO; rw [hex, hup, decide_eq_true hwt]; simp
  · repeat (first | ((with_reducible refine WDM_cons ?_; simp only [dw1]; try simp only [dw2, Nat.reduceAdd, Nat.reduceMul, Nat.reduceShiftRight, Nat.reduceMod, Nat.reduceEqDiff]); simp only [core, Nat.reduceAdd, Nat.reduceSub, Nat.reduceMul, Nat.reduceLT, Nat.reduceEqDiff, reduceCtorEq, Nat.reduceLeDiff, Int.reduceLE, Int.reduceLT, Int.reduceToNat, cored, LA, la, hex, hup, hwt]) | simp only [core, Nat.reduceAdd, Nat.reduceSub, Nat.reduceMul, Nat.reduceLT, Nat.reduceEqDiff, reduceCtorEq, Nat.reduceLeDiff, Int.reduceLE, Int.reduceLT, Int.reduceToNat, cored, LA, la, hex, hup, hwt])
    exact ⟨EA, by rw [hres]; unfold mayO; rw [hex, hup, decide_eq_false hwt]; rfl⟩
end Go.Proofs.YtkgbeihcepociaaDoor.Ex
end
