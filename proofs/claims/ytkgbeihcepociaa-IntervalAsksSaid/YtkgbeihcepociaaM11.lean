/- Part 11 of the proof: Bts, Abs, Open, Opa, Opb, Psm, Iv1, Ivs, Ivr, Ivw. -/
import Derived.Test.YtkgbeihcepociaaRows
import Derived.ProofKit
import Derived.OpenShut
import Derived.ShutString
import Derived.ChangeOld
import Derived.SizedLaws
import Derived.Test.YtkgbeihcepociaaM10
section

set_option linter.unusedSimpArgs false
set_option linter.unusedVariables false
set_option maxRecDepth 10000
set_option maxHeartbeats 4000000
namespace Go.Proofs.Ytkgbeihcepociaa.Ex
open Go
def bootO (m : MapD) (o : Int) : Int := match m.osds[o.toNat]? with
  | some y => y.boot
  | none => 0
def bootF (m : MapD) (l : List Int) : List Int := l.map (bootO m)
theorem able_inv {m : MapD} {o : Int} (h : ableF m o = true) : ∃ (k : Nat) (y : OsdD), o = (k : Int) ∧ m.osds[k]? = some y := by
  unfold ableF at h
  split at h
  · rename_i h0
    split at h
    · rename_i y hy
      exact ⟨_, y, (Int.toNat_of_nonneg h0).symm, hy⟩
    · cases h
  · cases h
theorem bootsR_x {F : Nat → Prop} {H : AH} {m : MapD} {vo vp vb : AV} (pool seed : Int) (hm : MpAt F H m vo vp vb) (hok : OkM m) (hlo : Sm 40 m.osds) (hpo : Sm 32 m.pools) :
    WC Try.prog (tabOf Try.prog NT0) S0 52 [mpV m vo vp vb, pgV pool seed] H fun v h' => Ext H.n H h' ∧ IsSl RInt (fun b => H.n ≤ b) h' v (bootF m (actF m pool seed)) := by
  refine WC_fn Try.func52 rfl rfl ?_
  have o1 := hm.o.one
  have o2 := hm.p.one
  have o3 := hm.b.one
  have w1 := hm.o.isSl
  have w2 := hm.o.lenD
  simp only [core, Nat.reduceAdd, Nat.reduceSub, Nat.reduceMul, Nat.reduceLT, Nat.reduceEqDiff, reduceCtorEq, Nat.reduceLeDiff, Int.reduceLE, Int.reduceLT, Int.reduceToNat, Try.ntmps52, mpV, pgV, o1, o2, o3]
  obtain ⟨h1, hh1⟩ : ∃ h1, h1 = (H.push (.cells [.lit (.int .i64 m.epoch), vo, vp, vb, .lit (.int .i64 m.leaf)] 31)).push (.cells [.lit (.int .i64 pool), .lit (.int .i64 seed)] 56) := ⟨_, rfl⟩
  have E1 : Ext H.n H h1 := hh1 ▸ ((Ext.refl _ _).push _ (Nat.le_refl _)).push _ (by rw [n_push]; omega)
  have A1 : h1.at H.n = some (.cells [.lit (.int .i64 m.epoch), vo, vp, vb, .lit (.int .i64 m.leaf)] 31) := hh1 ▸ (at_push_lt _ (by rw [n_push]; omega)).trans (at_push_n _ _)
  have B1 : h1.at (H.n + 1) = some (.cells [.lit (.int .i64 pool), .lit (.int .i64 seed)] 56) := hh1 ▸ at_push_n _ _
  have la1 := at_lt A1
  have lb1 := at_lt B1
  have LA1 := ld_at (T := tabOf Try.prog NT0) A1
  have LB1 := ld_at (T := tabOf Try.prog NT0) B1
  rw [← hh1]
  clear hh1
  refine (actR_x pool seed (hm.ext E1 (Nat.le_refl _)) hok hlo hpo).mono ?_
  rintro v h2 ⟨e2, hv⟩
  have E2 := E1.step e2
  have A2 := (e2.2 _ la1).trans A1
  have la2 := at_lt A2
  have v1 := hv.isSl
  have v2 := hv.lenD
  have hlen := actF_len (m := m) (pool := pool) (seed := seed)
  simp only [core, Nat.reduceAdd, Nat.reduceSub, Nat.reduceMul, Nat.reduceLT, Nat.reduceEqDiff, reduceCtorEq, Nat.reduceLeDiff, Int.reduceLE, Int.reduceLT, Int.reduceToNat, v1, v2]
  refine WB_for (actF m pool seed).length (fun i t h => ∃ o, OwnL RInt (fun _ => False) h2.n h o 3 (bootF m ((actF m pool seed).take i)) ∧ Ext h2.n h2 h ∧ t.n = 27 ∧ t.get 2 = .ptr H.n 0 ∧ t.get 5 = o ∧ t.get 10 = v ∧ t.get 11 = .lit (.int .i64 (actF m pool seed).length) ∧ t.get 12 = .lit (.int .i64 i)) ?_ ?_ _ _ ?_
  · rintro i t h hlt hc ⟨o, ho, he, hn, g2, g5, g10, g11, g12⟩ ih
    have E3 := E2.step he
    have A3 := (he.2 _ la2).trans A2
    have la3 := at_lt A3
    have LA3 := ld_at (T := tabOf Try.prog NT0) A3
    have hws := wrap_succ hlt (by omega)
    have hld := (hv.ext he (Nat.le_refl _)).int (T := tabOf Try.prog NT0) (e := 3) (by kernel_rfl) (by kernel_rfl) hlt
    obtain ⟨k, y, hk, hky⟩ := able_inv (actF_able ((actF m pool seed).getD i 0) (List.mem_of_getElem? (getD_some' 0 hlt)))
    have hkl : k < m.osds.length := (List.getElem?_eq_some_iff.1 hky).1
    obtain ⟨c, hc1, hg⟩ := (hm.o.ext E3 (Nat.le_refl _)).get (T := tabOf Try.prog NT0) hky
    obtain ⟨rfl, -, I1, -⟩ := ROsd_is.1 hc1
    have hgb : loadA (tabOf Try.prog NT0) h 3 (slB vo) (slO vo + k * 6 + 3) = some (.lit (.int .i64 y.boot)) := (hg 3 1 3 (by kernel_rfl) (by omega) (by decide)).trans (by simp only [core, Nat.reduceAdd, Nat.reduceSub, Nat.reduceMul, Nat.reduceLT, Nat.reduceEqDiff, reduceCtorEq, Nat.reduceLeDiff, Int.reduceLE, Int.reduceLT, Int.reduceToNat])
    rw [hk] at hld
    simp only [core, Nat.reduceAdd, Nat.reduceSub, Nat.reduceMul, Nat.reduceLT, Nat.reduceEqDiff, reduceCtorEq, Nat.reduceLeDiff, Int.reduceLE, Int.reduceLT, Int.reduceToNat, hn, g2, g5, g10, g11, g12, hc, hlt, hld, LA3, la3, v1, v2, w1, w2, hkl, hgb]
    obtain ⟨h8, hh8⟩ : ∃ h8, h8 = h.push (.cells [.lit (.int .i64 y.boot)] 3) := ⟨_, rfl⟩
    have e8 : Ext h.n h h8 := hh8 ▸ (Ext.refl _ _).push _ (Nat.le_refl _)
    have A8 : h8.at h.n = some (.cells [.lit (.int .i64 y.boot)] 3) := hh8 ▸ at_push_n h _
    have q7 := he.1
    have q8 := e8.1
    rw [← hh8]
    have htl : (bootF m ((actF m pool seed).take i)).length = i := by unfold bootF; rw [List.length_map, List.length_take]; omega
    refine WOp_app ((ho.ext e8 (Nat.le_refl _)).snoc (by kernel_rfl) (by kernel_rfl) (by kernel_rfl) (zv := .lit (.int .i64 0)) (by kernel_rfl) (by' := 8) (by kernel_rfl) rfl (by decide) (by decide) A8 (y := y.boot) ⟨rfl, I1⟩ (by omega) (by omega) (by omega)) ?_
    rintro s9 h9 ⟨ho9, e9, k9⟩
    have t9 := ho9.one
    simp only [core, Nat.reduceAdd, Nat.reduceSub, Nat.reduceMul, Nat.reduceLT, Nat.reduceEqDiff, reduceCtorEq, Nat.reduceLeDiff, Int.reduceLE, Int.reduceLT, Int.reduceToNat, hn, g2, g5, g10, g11, g12, t9, hws]
    refine ih _ _ ⟨s9, ?_, (he.step e8).trans e9, ?_⟩
    · have hel := getD_some' (0 : Int) hlt
      rw [List.take_add_one, hel, hk]
      unfold bootF at ho9 ⊢
      rw [List.map_append]
      have hb : bootO m (k : Int) = y.boot := by unfold bootO; rw [Int.toNat_natCast, hky]
      simp only [Option.toList_some, List.map_cons, List.map_nil, hb]
      exact ho9
    · simp only [core, Nat.reduceAdd, Nat.reduceSub, Nat.reduceMul, Nat.reduceLT, Nat.reduceEqDiff, reduceCtorEq, Nat.reduceLeDiff, Int.reduceLE, Int.reduceLT, Int.reduceToNat, hn, g2, g5, g10, g11, g12]
  · rintro t h hc ⟨o, ho, he, hn, g2, g5, g10, g11, g12⟩
    have t9 := ho.one
    rw [List.take_length] at ho
    simp only [core, Nat.reduceAdd, Nat.reduceSub, Nat.reduceMul, Nat.reduceLT, Nat.reduceEqDiff, reduceCtorEq, Nat.reduceLeDiff, Int.reduceLE, Int.reduceLT, Int.reduceToNat, hn, g2, g5, g10, g11, g12, hc, t9]
    refine ⟨E2.step he, ?_⟩
    exact ho.toSl (fun _ hf => hf.elim) (fun b hb => by have := E2.1; omega)
  · simp only [core, Nat.reduceAdd, Nat.reduceSub, Nat.reduceMul, Nat.reduceLT, Nat.reduceEqDiff, reduceCtorEq, Nat.reduceLeDiff, Int.reduceLE, Int.reduceLT, Int.reduceToNat]
    exact ⟨_, OwnL.nil, Ext.refl _ _, rfl, rfl⟩
theorem boots_x {F : Nat → Prop} {H : AH} {m : MapD} {vo vp vb : AV} (pool seed : Int) (hm : MpAt F H m vo vp vb) (hok : OkM m) (hlo : Sm 40 m.osds) (hpo : Sm 32 m.pools) :
    WC Try.prog (tabOf Try.prog NT0) S0 51 [mpV m vo vp vb, pgV pool seed] H fun v h' => Ext H.n H h' ∧ IsSl RInt (fun b => H.n ≤ b) h' v (bootF m (actF m pool seed)) := by
  refine WC_fn Try.func51 rfl rfl ?_
  have o1 := hm.o.one
  have o2 := hm.p.one
  have o3 := hm.b.one
  have w1 := hm.o.isSl
  have w2 := hm.o.lenD
  simp only [core, Nat.reduceAdd, Nat.reduceSub, Nat.reduceMul, Nat.reduceLT, Nat.reduceEqDiff, reduceCtorEq, Nat.reduceLeDiff, Int.reduceLE, Int.reduceLT, Int.reduceToNat, Try.ntmps51, mpV, pgV, o1, o2, o3]
  obtain ⟨h1, hh1⟩ : ∃ h1, h1 = (H.push (.cells [.lit (.int .i64 m.epoch), vo, vp, vb, .lit (.int .i64 m.leaf)] 31)).push (.cells [.lit (.int .i64 pool), .lit (.int .i64 seed)] 56) := ⟨_, rfl⟩
  have E1 : Ext H.n H h1 := hh1 ▸ ((Ext.refl _ _).push _ (Nat.le_refl _)).push _ (by rw [n_push]; omega)
  have A1 : h1.at H.n = some (.cells [.lit (.int .i64 m.epoch), vo, vp, vb, .lit (.int .i64 m.leaf)] 31) := hh1 ▸ (at_push_lt _ (by rw [n_push]; omega)).trans (at_push_n _ _)
  have B1 : h1.at (H.n + 1) = some (.cells [.lit (.int .i64 pool), .lit (.int .i64 seed)] 56) := hh1 ▸ at_push_n _ _
  have la1 := at_lt A1
  have lb1 := at_lt B1
  have LA1 := ld_at (T := tabOf Try.prog NT0) A1
  have LB1 := ld_at (T := tabOf Try.prog NT0) B1
  rw [← hh1]
  clear hh1
  refine (act_x pool seed (hm.ext E1 (Nat.le_refl _)) hok hlo hpo).mono ?_
  rintro v h2 ⟨e2, hv⟩
  have E2 := E1.step e2
  have A2 := (e2.2 _ la1).trans A1
  have la2 := at_lt A2
  have v1 := hv.isSl
  have v2 := hv.lenD
  have hlen := actF_len (m := m) (pool := pool) (seed := seed)
  simp only [core, Nat.reduceAdd, Nat.reduceSub, Nat.reduceMul, Nat.reduceLT, Nat.reduceEqDiff, reduceCtorEq, Nat.reduceLeDiff, Int.reduceLE, Int.reduceLT, Int.reduceToNat, v1, v2]
  refine WB_for (actF m pool seed).length (fun i t h => ∃ o, OwnL RInt (fun _ => False) h2.n h o 3 (bootF m ((actF m pool seed).take i)) ∧ Ext h2.n h2 h ∧ t.n = 27 ∧ t.get 2 = .ptr H.n 0 ∧ t.get 5 = o ∧ t.get 10 = v ∧ t.get 11 = .lit (.int .i64 (actF m pool seed).length) ∧ t.get 12 = .lit (.int .i64 i)) ?_ ?_ _ _ ?_
  · rintro i t h hlt hc ⟨o, ho, he, hn, g2, g5, g10, g11, g12⟩ ih
    have E3 := E2.step he
    have A3 := (he.2 _ la2).trans A2
    have la3 := at_lt A3
    have LA3 := ld_at (T := tabOf Try.prog NT0) A3
    have hws := wrap_succ hlt (by omega)
    have hld := (hv.ext he (Nat.le_refl _)).int (T := tabOf Try.prog NT0) (e := 3) (by kernel_rfl) (by kernel_rfl) hlt
    obtain ⟨k, y, hk, hky⟩ := able_inv (actF_able ((actF m pool seed).getD i 0) (List.mem_of_getElem? (getD_some' 0 hlt)))
    have hkl : k < m.osds.length := (List.getElem?_eq_some_iff.1 hky).1
    obtain ⟨c, hc1, hg⟩ := (hm.o.ext E3 (Nat.le_refl _)).get (T := tabOf Try.prog NT0) hky
    obtain ⟨rfl, -, I1, -⟩ := ROsd_is.1 hc1
    have hgb : loadA (tabOf Try.prog NT0) h 3 (slB vo) (slO vo + k * 6 + 3) = some (.lit (.int .i64 y.boot)) := (hg 3 1 3 (by kernel_rfl) (by omega) (by decide)).trans (by simp only [core, Nat.reduceAdd, Nat.reduceSub, Nat.reduceMul, Nat.reduceLT, Nat.reduceEqDiff, reduceCtorEq, Nat.reduceLeDiff, Int.reduceLE, Int.reduceLT, Int.reduceToNat])
    rw [hk] at hld
    simp only [core, Nat.reduceAdd, Nat.reduceSub, Nat.reduceMul, Nat.reduceLT, Nat.reduceEqDiff, reduceCtorEq, Nat.reduceLeDiff, Int.reduceLE, Int.reduceLT, Int.reduceToNat, hn, g2, g5, g10, g11, g12, hc, hlt, hld, LA3, la3, v1, v2, w1, w2, hkl, hgb]
    obtain ⟨h8, hh8⟩ : ∃ h8, h8 = h.push (.cells [.lit (.int .i64 y.boot)] 3) := ⟨_, rfl⟩
    have e8 : Ext h.n h h8 := hh8 ▸ (Ext.refl _ _).push _ (Nat.le_refl _)
    have A8 : h8.at h.n = some (.cells [.lit (.int .i64 y.boot)] 3) := hh8 ▸ at_push_n h _
    have q7 := he.1
    have q8 := e8.1
    rw [← hh8]
    have htl : (bootF m ((actF m pool seed).take i)).length = i := by unfold bootF; rw [List.length_map, List.length_take]; omega
    refine WOp_app ((ho.ext e8 (Nat.le_refl _)).snoc (by kernel_rfl) (by kernel_rfl) (by kernel_rfl) (zv := .lit (.int .i64 0)) (by kernel_rfl) (by' := 8) (by kernel_rfl) rfl (by decide) (by decide) A8 (y := y.boot) ⟨rfl, I1⟩ (by omega) (by omega) (by omega)) ?_
    rintro s9 h9 ⟨ho9, e9, k9⟩
    have t9 := ho9.one
    simp only [core, Nat.reduceAdd, Nat.reduceSub, Nat.reduceMul, Nat.reduceLT, Nat.reduceEqDiff, reduceCtorEq, Nat.reduceLeDiff, Int.reduceLE, Int.reduceLT, Int.reduceToNat, hn, g2, g5, g10, g11, g12, t9, hws]
    refine ih _ _ ⟨s9, ?_, (he.step e8).trans e9, ?_⟩
    · have hel := getD_some' (0 : Int) hlt
      rw [List.take_add_one, hel, hk]
      unfold bootF at ho9 ⊢
      rw [List.map_append]
      have hb : bootO m (k : Int) = y.boot := by unfold bootO; rw [Int.toNat_natCast, hky]
      simp only [Option.toList_some, List.map_cons, List.map_nil, hb]
      exact ho9
    · simp only [core, Nat.reduceAdd, Nat.reduceSub, Nat.reduceMul, Nat.reduceLT, Nat.reduceEqDiff, reduceCtorEq, Nat.reduceLeDiff, Int.reduceLE, Int.reduceLT, Int.reduceToNat, hn, g2, g5, g10, g11, g12]
  · rintro t h hc ⟨o, ho, he, hn, g2, g5, g10, g11, g12⟩
    have t9 := ho.one
    rw [List.take_length] at ho
    simp only [core, Nat.reduceAdd, Nat.reduceSub, Nat.reduceMul, Nat.reduceLT, Nat.reduceEqDiff, reduceCtorEq, Nat.reduceLeDiff, Int.reduceLE, Int.reduceLT, Int.reduceToNat, hn, g2, g5, g10, g11, g12, hc, t9]
    refine ⟨E2.step he, ?_⟩
    exact ho.toSl (fun _ hf => hf.elim) (fun b hb => by have := E2.1; omega)
  · simp only [core, Nat.reduceAdd, Nat.reduceSub, Nat.reduceMul, Nat.reduceLT, Nat.reduceEqDiff, reduceCtorEq, Nat.reduceLeDiff, Int.reduceLE, Int.reduceLT, Int.reduceToNat]
    exact ⟨_, OwnL.nil, Ext.refl _ _, rfl, rfl⟩
end Go.Proofs.Ytkgbeihcepociaa.Ex
end

section

set_option linter.unusedSimpArgs false
set_option linter.unusedVariables false
namespace Go.Proofs.Ytkgbeihcepociaa.Ex
open Go
/-- A row of cells. -/
def rowO (w : World) (r : Nat) : Option (List Value × TypeId) := match w.heap[r]? with
  | some (.cells cur e _) => some (cur.toList, e)
  | _ => none
theorem rowO_inv {w : World} {r : Nat} {l : List Value} {e : TypeId} (h : rowO w r = some (l, e)) : ∃ cur fz, w.heap[r]? = some (.cells cur e fz) ∧ l = cur.toList := by
  unfold rowO at h
  split at h
  · rename_i cur e' fz hh
    simp only [Option.some.injEq, Prod.mk.injEq] at h
    obtain ⟨rfl, rfl⟩ := h
    exact ⟨cur, fz, hh, rfl⟩
  · cases h
def winsAt (w : World) (r : Nat) : List (Nat × Nat) := match rowO w r with
  | some (l, _) => (List.range (l.length + 1)).map fun off => (r, off)
  | none => []
/-- All windows: a row from a place on. -/
def wins (w : World) : List (Nat × Nat) := (List.range w.heap.size).flatMap (winsAt w)
theorem mem_wins {w : World} {r off : Nat} : (r, off) ∈ wins w ↔ ∃ l e, rowO w r = some (l, e) ∧ off ≤ l.length := by
  unfold wins
  rw [List.mem_flatMap]
  constructor
  · rintro ⟨r', _, h⟩
    unfold winsAt at h
    split at h
    · rename_i l e hl
      obtain ⟨off', h1, h2⟩ := List.mem_map.1 h
      simp only [Prod.mk.injEq] at h2
      obtain ⟨rfl, rfl⟩ := h2
      rw [List.mem_range] at h1
      exact ⟨l, e, hl, by omega⟩
    · cases h
  · rintro ⟨l, e, hl, ho⟩
    refine ⟨r, ?_, ?_⟩
    · obtain ⟨cur, fz, hh, _⟩ := rowO_inv hl
      rw [List.mem_range]
      exact (Array.getElem?_eq_some_iff.1 hh).1
    · unfold winsAt
      rw [hl]
      exact List.mem_map.2 ⟨off, by rw [List.mem_range]; omega, rfl⟩
/-- A window's number. -/
def widx (w : World) (p : Nat × Nat) : Nat := (wins w).idxOf p + 1
def mu0 (w : World) : Mu := fun b => match b with
  | 0 => none
  | k + 1 => (wins w)[k]?
theorem mu0_widx {w : World} {p : Nat × Nat} (h : p ∈ wins w) : mu0 w (widx w p) = some p := by
  show (wins w)[(wins w).idxOf p]? = some p
  have hlt := List.idxOf_lt_length_of_mem h
  rw [List.getElem?_eq_getElem hlt, List.getElem_idxOf hlt]
instance (w : World) (p : Nat × Nat) : Decidable (p ∈ wins w) := inferInstance
def absV (w : World) : Value → AV
  | .pointer (some ⟨r, o, none⟩) => if (r, o) ∈ wins w then .ptr (widx w (r, o)) 0 else .any
  | .slice (some a) len cap => if len = 0 ∧ cap = 0 then .sl 0 0 0 (.kn 0) else match a with
    | ⟨r, o, none⟩ => if (r, o) ∈ wins w ∧ len ≤ cap ∧ cap ≤ maxLen then .sl (widx w (r, o)) 0 len (.kn cap) else .any
    | _ => .any
  | v => bif scal v then .lit v else .any
theorem absV_rel {ρ : Nat → Value} {w : World} {v : Value} (hv : v.oneCell' = true) : rel ρ (mu0 w) w (absV w v) v := by
  unfold absV
  split
  · rename_i r o
    split
    · rename_i hm
      unfold rel
      exact ⟨r, o, mu0_widx hm, rfl⟩
    · unfold rel; exact hv
  · rename_i a len cap
    split
    · rename_i h0
      obtain ⟨rfl, rfl⟩ := h0
      unfold rel
      exact .inr ⟨rfl, rfl, a, rfl⟩
    · split
      · rename_i r o
        split
        · rename_i hm
          unfold rel
          exact .inl ⟨r, o, o, cap, mu0_widx hm.1, rfl, .inr rfl, rfl, hm.2.1, hm.2.2⟩
        · unfold rel; exact hv
      · unfold rel; exact hv
  · cases hs : scal v with
    | false => simp only [cond_false]; unfold rel; exact hv
    | true => simp only [cond_true]; exact rel_lit hs
/-- A window's cells, as far as they are cells. -/
def absB (w : World) (p : Nat × Nat) : AB := match rowO w p.1 with
  | some (l, e) => .frz (((l.drop p.2).takeWhile (·.oneCell')).map (absV w)) e
  | none => .gone
def AH.ofList (l : List AB) : AH := l.foldl AH.push .nil
theorem L_foldl : ∀ (l : List AB) (h : AH), (l.foldl AH.push h).L = h.L ++ l
  | [], h => by simp
  | x :: r, h => by rw [List.foldl_cons, L_foldl r, L_push, List.append_assoc]; rfl
theorem L_ofList (l : List AB) : (AH.ofList l).L = l := by
  unfold AH.ofList
  rw [L_foldl]
  rfl
/-- The abstract heap of a world; block 0 is an empty row. -/
def absH (w : World) : AH := AH.ofList (.frz [] 0 :: (wins w).map (absB w))
theorem absH_L (w : World) : (absH w).L = .frz [] 0 :: (wins w).map (absB w) := L_ofList _
theorem absH_0 (w : World) : (absH w).at 0 = some (.frz [] 0) := by rw [← L_at, absH_L]; rfl
theorem absH_at {w : World} {p : Nat × Nat} (h : p ∈ wins w) : (absH w).at (widx w p) = some (absB w p) := by
  rw [← L_at, absH_L]
  have : (wins w)[(wins w).idxOf p]? = some p := mu0_widx h
  show ((wins w).map (absB w))[(wins w).idxOf p]? = _
  rw [List.getElem?_map, this]
  rfl
theorem absH_wr {w : World} {b : Nat} {ab : AB} (h : (absH w).L[b]? = some ab) : wr ab = false := by
  rw [absH_L] at h
  cases b with
  | zero => simp at h; subst h; rfl
  | succ k =>
    rw [List.getElem?_cons_succ, List.getElem?_map] at h
    obtain ⟨p, _, rfl⟩ := Option.map_eq_some_iff.1 h
    unfold absB
    split <;> rfl
theorem absH_nw (w : World) (b : Nat) (ab : AB) (h : (absH w).at b = some ab) : wr ab = false := absH_wr (by rw [L_at]; exact h)
theorem takeWhile_get {α : Type} {p : α → Bool} : ∀ {l : List α} {i : Nat} {x : α}, (l.takeWhile p)[i]? = some x → l[i]? = some x ∧ p x = true
  | [], i, x, h => by simp at h
  | a :: r, i, x, h => by
    rw [List.takeWhile_cons] at h
    cases ha : p a with
    | false => rw [ha] at h; simp at h
    | true =>
      rw [ha] at h
      cases i with
      | zero => simp at h; subst h; exact ⟨rfl, ha⟩
      | succ i => simp only [if_true, List.getElem?_cons_succ] at h ⊢; exact takeWhile_get h
theorem takeWhile_take {α : Type} {p : α → Bool} : ∀ {l : List α} {n : Nat}, (∀ x ∈ l.take n, p x = true) → (l.takeWhile p).take n = l.take n
  | [], n, _ => by simp
  | a :: r, 0, _ => by simp
  | a :: r, n + 1, h => by
    rw [List.takeWhile_cons, if_pos (h a (by simp)), List.take_succ_cons, List.take_succ_cons, takeWhile_take fun x hx => h x (by simp [hx])]
theorem absH_hr {P : Program} {ρ : Nat → Value} (w : World) : HR P ρ w.heap.size (mu0 w) (absH w) w := by
  refine ⟨Nat.le_refl _, fun b x hb => ?_, fun b r base ab hb hx => ?_, fun b b' r base base' ab ab' h1 h2 h3 h4 h5 h6 => ?_⟩
  · rw [absH_L]
    cases b with
    | zero => cases hb
    | succ k =>
      have : k < (wins w).length := (List.getElem?_eq_some_iff.1 (show (wins w)[k]? = some x from hb)).1
      simp only [List.length_cons, List.length_map]
      omega
  · cases b with
    | zero => cases hb
    | succ k =>
      have hk : (wins w)[k]? = some (r, base) := hb
      rw [absH_L, List.getElem?_cons_succ, List.getElem?_map, hk] at hx
      simp only [Option.map_some, Option.some.injEq] at hx
      obtain ⟨l, e, hl, ho⟩ := mem_wins.1 (List.mem_of_getElem? hk)
      obtain ⟨cur, fz, hh, rfl⟩ := rowO_inv hl
      unfold absB at hx
      rw [hl] at hx
      simp only at hx
      subst hx
      refine ⟨fun hw => (by cases hw), (Array.getElem?_eq_some_iff.1 hh).1, _, hh, cur, fz, rfl, ?_, fun i x hi => ?_⟩
      · have h1 := (List.takeWhile_prefix (l := cur.toList.drop base) (·.oneCell')).length_le
        rw [List.length_drop] at h1
        have e0 : cur.toList.length = cur.size := Array.length_toList
        rw [e0] at h1 ho
        rw [List.length_map]
        exact Nat.le_trans (Nat.add_le_add_left h1 base) (by omega)
      · rw [List.getElem?_map] at hi
        obtain ⟨v, hv, rfl⟩ := Option.map_eq_some_iff.1 hi
        obtain ⟨h1, h2⟩ := takeWhile_get hv
        rw [List.getElem?_drop, Array.getElem?_toList] at h1
        exact ⟨v, h1, absV_rel h2⟩
  · have := absH_wr h3
    rw [this] at h5
    cases h5
end Go.Proofs.Ytkgbeihcepociaa.Ex
end

section

set_option linter.unusedSimpArgs false
set_option linter.unusedVariables false
namespace Go.Proofs.Ytkgbeihcepociaa
open Go.RowKit Go.ChangeShapes Go.WideShapes Go.ChangeAt
open Go.ChangeMaps (open_string shut_string)
theorem own : ownKnob Try.prog.godebug = none := by kernel_rfl
theorem laidOut : laidOutB Try.prog = true := by kernel_rfl
section
variable {H : Type} {enc : TypeId × Value → H} {P : Program} {W W' : World}
theorem below_trodAll (hl : laidOutB P = true) (hb : Below W.heap.size W W') : ∀ {ts : List TypeId} {vs : List Value} {ds : List (DataW H)} {ps : List MemPlace},
    ts.all (fun t => P.readableRec t && decide (t < P.types.size)) = true → DataW.TrodAll enc P W 0 (fun _ => true) true ts vs ds ps → DataW.TrodAll enc P W' 0 (fun b => decide (b < W.heap.size)) true ts vs ds ps
  | [], _, _, _, _, h => by obtain ⟨rfl, rfl, rfl⟩ := trodAll_nil h; exact trodAll_mk0
  | t :: ts, vs, ds, ps, hr, h => by
    obtain ⟨v, vs', d, ds', p, q, rfl, rfl, rfl, h1, h2⟩ := trodAll_cons h
    simp only [List.all_cons, Bool.and_eq_true, decide_eq_true_eq] at hr
    refine trodAll_cons_mk (Below.trod hl hr.1.1 hr.1.2 h1 hb ?_) (below_trodAll hl hb (by simpa using hr.2) h2)
    obtain ⟨m, hm⟩ := h1
    exact DataW.trod_lt m _ _ _ hm
theorem weights_le {ts : List TypeId} {ds : List (DataW H)} (hsz : (DataW.weightsEach P ts ds).all (· ≤ reachBytes) = true) {j : Nat} {t : TypeId} {d : DataW H} (hj : ts[j]? = some t) (hd : ds[j]? = some d) : ∀ n ∈ d.weights P t, n ≤ reachBytes := fun n hn => by
  have := List.all_eq_true.1 hsz n (DataW.weights_mem_each hj hd n hn)
  simpa using this
theorem weightsAll_mem {e : TypeId} : ∀ {l : List (DataW H)} {i : Nat} {d : DataW H}, l[i]? = some d → ∀ n ∈ d.weights P e, n ∈ DataW.weightsAll P e l
  | d0 :: l, 0, d, h, n, hn => by simp at h; subst h; simp [DataW.weightsAll, hn]
  | d0 :: l, i + 1, d, h, n, hn => by
    simp only [List.getElem?_cons_succ] at h
    simp only [DataW.weightsAll, List.mem_append]
    exact .inr (weightsAll_mem h n hn)
end
end Go.Proofs.Ytkgbeihcepociaa
end

section

set_option linter.unusedSimpArgs false
set_option linter.unusedVariables false
namespace Go.Proofs.Ytkgbeihcepociaa.Ex
open Go Go.RowKit Go.ChangeShapes Go.WideShapes Go.ChangeAt
section
variable {H : Type} (enc : TypeId × Value → H)
/-- The blocks of the abstract heap. -/
def InH (W : World) : Nat → Prop := fun b => b < (absH W).n
/-- A value of type t that is read is plain data; of what is not too great, B holds. -/
def OpensA (P : Program) (W : World) (t : TypeId) {α : Type} (R : Rep α) (B : α → Prop) : Prop :=
  P.cellsOf t = R.z ∧ ∀ (fuel : Nat) (cs : List Value) (x : DataW H × List MemPlace), DataW.trod enc P W 0 (fun _ => true) true fuel t cs = some x → (x.1.weights P t).all (· ≤ reachBytes) = true →
    cs.length = R.z ∧ (∀ c ∈ cs, c.oneCell' = true) ∧ ∃ y, R.is (InH W) (absH W) (cs.map (absV W)) y ∧ B y
variable {enc} {P : Program} {W : World}
theorem opensA_int {t : TypeId} (ht : P.underlying t = some (.int .i64)) (hc : P.cellsOf t = 1) : OpensA enc P W t RInt (fun _ => True) := by
  refine ⟨hc, fun fuel cs x h _ => ?_⟩
  obtain ⟨n, rfl, rfl, hw⟩ := DataW.trod_int ht h
  refine ⟨rfl, by simp; rfl, n, ⟨rfl, ?_⟩, trivial⟩
  simp only [Lit.wf, IntKind.min, IntKind.max, IntKind.signed, IntKind.bits] at hw
  simp at hw
  exact ⟨hw.1, by omega⟩
theorem opensA_bool {t : TypeId} (ht : P.underlying t = some .bool) (hc : P.cellsOf t = 1) : OpensA enc P W t RBool (fun _ => True) := by
  refine ⟨hc, fun fuel cs x h _ => ?_⟩
  obtain ⟨b, rfl, rfl⟩ := DataW.trod_bool ht h
  exact ⟨rfl, by simp; rfl, b, rfl, trivial⟩
theorem flat_getV {α : Type} {z : Nat} : ∀ {L : List (List α)}, (∀ x ∈ L, x.length = z) → ∀ (i : Nat) {c : List α}, L[i]? = some c → (L.flatten.drop (i * z)).take z = c
  | [], _, i, c, hc => by simp at hc
  | a :: r, h, i, c, hc => by
    have ha := h a (by simp)
    cases i with
    | zero =>
      obtain rfl : a = c := by simpa using hc
      rw [Nat.zero_mul, List.drop_zero, List.flatten_cons, ← ha, List.take_left']
      rfl
    | succ i =>
      rw [List.flatten_cons, Nat.succ_mul, Nat.add_comm, List.drop_append, List.drop_of_length_le (by omega), List.nil_append, ha, Nat.add_sub_cancel_left]
      exact flat_getV (fun x hx => h x (by simp [hx])) i (by simpa using hc)
theorem flat_lenV {α : Type} {z : Nat} {L : List (List α)} (h : ∀ x ∈ L, x.length = z) : L.flatten.length = L.length * z := by
  induction L with
  | nil => simp
  | cons a r ih =>
    rw [List.flatten_cons, List.length_append, ih (fun x hx => h x (by simp [hx])), h a (by simp), List.length_cons, Nat.succ_mul]
    omega
theorem weightsAll_mem {e : TypeId} : ∀ {l : List (DataW H)} {d : DataW H}, d ∈ l → ∀ n ∈ d.weights P e, n ∈ DataW.weightsAll P e l
  | a :: r, d, hd, n, hn => by
    simp only [DataW.weightsAll, List.mem_append]
    rcases List.mem_cons.1 hd with rfl | h
    · exact .inl hn
    · exact .inr (weightsAll_mem h n hn)
theorem opensA_list {t e : TypeId} {α : Type} {R : Rep α} {B : α → Prop} {by' : Nat} (ht : P.underlying t = some (.slice e)) (hc : P.cellsOf t = 1) (hb : P.bytesOf e = by') (h0 : 0 < R.z) (ho : OpensA enc P W e R B) :
    OpensA enc P W t (RSl R) (fun ys => ys.length * by' ≤ 140737488351232 ∧ ∀ y ∈ ys, B y) := by
  refine ⟨hc, fun fuel cs x hf hw => ?_⟩
  rcases DataW.trod_slice ht hf with ⟨rfl, rfl⟩ | ⟨a, len, cap, elems, rest, m, rfl, rfl, rfl, hba, hl, hm, hlen, hel, hsp, hns⟩
  · exact ⟨rfl, by simp; rfl, [], RSl_is.2 ⟨_, rfl, IsSl.nil⟩, by simp, by simp⟩
  · rw [ho.1] at hel hsp
    simp only [DataW.weights, ht, List.all_cons, List.all_append, Bool.and_eq_true, decide_eq_true_eq, hb] at hw
    obtain ⟨hw1, hw2, hw3⟩ := hw
    have hrl := (hsp rfl).1
    have hbig : len * by' ≤ 140737488351232 := by
      have h1 : len * by' ≤ (elems.map (·.1)).length * by' + (rest.map (·.1)).length * by' := by rw [List.length_map, hlen]; omega
      rw [← Nat.add_mul] at h1
      exact Nat.le_trans h1 hw1
    have hone : ∀ c ∈ [Value.slice (some a) len cap], c.oneCell' = true := by simp; rfl
    refine ⟨rfl, hone, ?_⟩
    by_cases hz : len = 0 ∧ cap = 0
    · obtain ⟨rfl, rfl⟩ := hz
      refine ⟨[], RSl_is.2 ⟨.sl 0 0 0 (.kn 0), by simp [absV], .mk (L := []) ⟨by simp, .inr ⟨0, 0, _, [], rfl, by unfold getR; rw [absH_0], by simp [cut]⟩⟩ (fun b off n cap e => ?_) (fun b off n cap e => by cases e; exact Nat.le_refl 0) .nil⟩, by simp, by simp⟩
      cases e
      exact at_lt (absH_0 W)
    · have hcap : 0 < cap := by omega
      have hsz0 : elems.length + rest.length = cap := by omega
      -- what is read
      have hrd : ∀ i, i < cap → ∃ l x, W.cells? 0 (a.add (i * R.z)) R.z = some l ∧ DataW.trod enc P W 0 (fun _ => true) true m e l = some x ∧ (i < len → elems[i]? = some x) := fun i hi => by
        by_cases hil : i < len
        · have h2 := hel i hil
          rw [List.getElem?_eq_getElem (by omega)] at h2
          obtain ⟨l, hl1, hl2⟩ := Option.bind_eq_some_iff.1 h2
          exact ⟨l, _, hl1, hl2, fun _ => List.getElem?_eq_getElem (by omega)⟩
        · have h2 := (hsp rfl).2 (i - len) (by omega)
          rw [List.getElem?_eq_getElem (by omega), show len + (i - len) = i by omega] at h2
          obtain ⟨l, hl1, hl2⟩ := Option.bind_eq_some_iff.1 h2
          exact ⟨l, _, hl1, hl2, fun h => absurd h hil⟩
      obtain ⟨r, o, spot⟩ := a
      obtain ⟨l0, x0, q1, q2, -⟩ := hrd 0 hcap
      have hspot : spot = none := by
        have h3 := World.cells?_some q1
        have h4 := h3.2.2 0 h0
        rw [List.getElem?_eq_getElem (by have := h3.2.1; omega)] at h4
        simpa [Addr.add] using World.cell?_spot h4
      subst hspot
      have hcell : ∀ (k : Nat) (v : Value), W.cell? (⟨r, o + k, none⟩ : Addr) = some v → ∃ cur e fz, W.heap[r]? = some (.cells cur e fz) ∧ cur[o + k]? = some v := fun k v hk => by
        unfold World.cell? at hk
        cases hh : W.heap[r]? with
        | none => simp [hh] at hk
        | some ob => cases ob <;> simp [hh] at hk <;> exact ⟨_, _, _, rfl, hk⟩
      -- the row
      obtain ⟨cur, te, fz, hrow⟩ : ∃ cur te fz, W.heap[r]? = some (.cells cur te fz) := by
        have h3 := World.cells?_some q1
        have h4 := h3.2.2 0 h0
        rw [List.getElem?_eq_getElem (by have := h3.2.1; omega)] at h4
        obtain ⟨cur, te, fz, h5, _⟩ := hcell 0 _ (by simpa [Addr.add] using h4)
        exact ⟨cur, te, fz, h5⟩
      have hcur : ∀ i l, W.cells? 0 ((⟨r, o, none⟩ : Addr).add (i * R.z)) R.z = some l → l.length = R.z ∧ ∀ f, f < R.z → cur[o + i * R.z + f]? = l[f]? := fun i l hil => by
        have h3 := World.cells?_some hil
        refine ⟨h3.2.1, fun f hf => ?_⟩
        have h4 := h3.2.2 f hf
        obtain ⟨u, hu⟩ : ∃ u, l[f]? = some u := ⟨_, List.getElem?_eq_getElem (by have := h3.2.1; omega)⟩
        rw [hu] at h4 ⊢
        rw [addr_add, addr_add] at h4
        obtain ⟨cur', te', fz', h5, h6⟩ := hcell (i * R.z + f) _ (by rw [← Nat.add_assoc]; exact h4)
        rw [hrow] at h5
        obtain ⟨rfl, _, _⟩ := Obj.cells.inj (Option.some.inj h5)
        rw [← h6, Nat.add_assoc]
      -- the elements, and the data
      have key : ∀ n, n ≤ len → ∃ (L : List (List Value)) (ys : List α), L.length = n ∧ ys.length = n ∧ (∀ c ∈ L, c.length = R.z ∧ ∀ u ∈ c, u.oneCell' = true) ∧ (∀ (i : Nat) c y, L[i]? = some c → ys[i]? = some y → R.is (InH W) (absH W) (c.map (absV W)) y) ∧ (∀ (i : Nat) c, L[i]? = some c → ∀ f, f < R.z → cur[o + i * R.z + f]? = c[f]?) ∧ ∀ y ∈ ys, B y := by
        intro n
        induction n with
        | zero => exact fun _ => ⟨[], [], rfl, rfl, by simp, by simp, by simp, by simp⟩
        | succ n ih =>
          intro hn
          obtain ⟨L, ys, h1, h2, h3, h4, h5, h6⟩ := ih (by omega)
          obtain ⟨l, x, e1, e2, e3⟩ := hrd n (by omega)
          have e3 := e3 (by omega)
          have hwx : (x.1.weights P e).all (· ≤ reachBytes) = true := by
            rw [List.all_eq_true] at hw2 ⊢
            intro k hk
            exact hw2 k (weightsAll_mem (List.mem_map.2 ⟨x, List.mem_of_getElem? e3, rfl⟩) k hk)
          obtain ⟨g1, g2, y, g3, g4⟩ := ho.2 _ _ _ e2 hwx
          obtain ⟨g5, g6⟩ := hcur n l e1
          refine ⟨L ++ [l], ys ++ [y], by simp [h1], by simp [h2], fun c hc => ?_, fun i c z hc hz => ?_, fun i c hc => ?_, fun z hz => ?_⟩
          · rcases List.mem_append.1 hc with hc | hc
            · exact h3 c hc
            · simp at hc; subst hc; exact ⟨g1, g2⟩
          · by_cases hi : i < n
            · rw [List.getElem?_append_left (by omega)] at hc hz
              exact h4 i c z hc hz
            · have := (List.getElem?_eq_some_iff.1 hc).1
              simp only [List.length_append, List.length_singleton] at this
              obtain rfl : i = n := by omega
              rw [List.getElem?_append_right (by omega), h1, Nat.sub_self] at hc
              rw [List.getElem?_append_right (by omega), h2, Nat.sub_self] at hz
              simp at hc hz
              subst hc hz
              exact g3
          · by_cases hi : i < n
            · rw [List.getElem?_append_left (by omega)] at hc
              exact h5 i c hc
            · have := (List.getElem?_eq_some_iff.1 hc).1
              simp only [List.length_append, List.length_singleton] at this
              obtain rfl : i = n := by omega
              rw [List.getElem?_append_right (by omega), h1, Nat.sub_self] at hc
              simp at hc
              subst hc
              exact g6
          · rcases List.mem_append.1 hz with hz | hz
            · exact h6 z hz
            · simp at hz; subst hz; exact g4
      obtain ⟨L, ys, k1, k2, k3, k4, k5, k6⟩ := key len (Nat.le_refl _)
      have hfl : L.flatten.length = len * R.z := by rw [flat_lenV (fun c hc => (k3 c hc).1), k1]
      have hpre : (cur.toList.drop o).take (len * R.z) = L.flatten := by
        apply List.ext_getElem?
        intro j
        by_cases hj : j < len * R.z
        · rw [List.getElem?_take, if_pos hj, List.getElem?_drop, Array.getElem?_toList]
          have hd : j / R.z < len := Nat.div_lt_of_lt_mul (by rw [Nat.mul_comm]; exact hj)
          have hm2 := Nat.mod_lt j h0
          have hdm := Nat.div_add_mod j R.z
          rw [Nat.mul_comm] at hdm
          have hLd : L[j / R.z]? = some L[j / R.z] := List.getElem?_eq_getElem (by omega)
          have h7 := k5 (j / R.z) _ hLd (j % R.z) hm2
          rw [Nat.add_assoc, hdm] at h7
          rw [h7]
          have h8 := flat_getV (fun c hc => (k3 c hc).1) (j / R.z) hLd
          rw [← h8, List.getElem?_take, if_pos hm2, List.getElem?_drop, hdm]
        · rw [List.getElem?_eq_none (by rw [List.length_take]; omega), List.getElem?_eq_none (by omega)]
      have hto : o ≤ cur.size := by
        obtain ⟨hll, hff⟩ := hcur 0 l0 q1
        have := hff 0 h0
        rw [List.getElem?_eq_getElem (by omega)] at this
        have := (Array.getElem?_eq_some_iff.1 this).1
        omega
      have hro : rowO W r = some (cur.toList, te) := by unfold rowO; rw [hrow]
      have hwin : (r, o) ∈ wins W := mem_wins.2 ⟨_, _, hro, by rw [Array.length_toList]; exact hto⟩
      refine ⟨ys, RSl_is.2 ⟨.sl (widx W (r, o)) 0 len (.kn cap), ?_, .mk (L := L.map (·.map (absV W))) ⟨?_, .inr ⟨widx W (r, o), 0, .kn cap, ((cur.toList.drop o).takeWhile (·.oneCell')).map (absV W), by rw [List.length_map, k1], ?_, ?_⟩⟩ (fun b off n cap e => ?_) (fun b off n cap e => ?_) ⟨by rw [List.length_map, k1, k2], fun i c y hc hy => ?_⟩⟩, by rw [k2]; exact hbig, k6⟩
      · show [absV W (.slice (some ⟨r, o, none⟩) len cap)] = _
        simp only [absV, if_neg hz, if_pos (show (r, o) ∈ wins W ∧ len ≤ cap ∧ cap ≤ maxLen from ⟨hwin, hl, hm⟩)]
      · intro c hc
        obtain ⟨d, hd, rfl⟩ := List.mem_map.1 hc
        rw [List.length_map]
        exact (k3 d hd).1
      · unfold getR
        rw [absH_at hwin]
        simp only [absB, hro]
      · have htw : ((cur.toList.drop o).takeWhile (·.oneCell')).take (len * R.z) = L.flatten := by
          rw [takeWhile_take, hpre]
          intro u hu
          rw [hpre] at hu
          obtain ⟨c, hc, hu⟩ := List.mem_flatten.1 hu
          exact (k3 c hc).2 u hu
        have hlen2 : len * R.z ≤ ((cur.toList.drop o).takeWhile (·.oneCell')).length := by
          have := congrArg List.length htw
          rw [List.length_take, hfl] at this
          omega
        rw [List.length_map, k1]
        unfold cut
        rw [if_pos (by rw [List.length_map]; omega), List.drop_zero, ← List.map_take, htw, List.map_flatten]
      · cases e
        exact at_lt (absH_at hwin)
      · cases e
        exact hl
      · rw [List.getElem?_map] at hc
        obtain ⟨d, hd, rfl⟩ := Option.map_eq_some_iff.1 hc
        exact k4 i d y hd hy
/-! Structs. -/
/-- Values of several types, one behind another. -/
def OpensL (enc : TypeId × Value → H) (P : Program) (W : World) (ts : List TypeId) {α : Type} (R : Rep α) (B : α → Prop) : Prop :=
  (ts.map P.cellsOf).sum = R.z ∧ ∀ (fuel : Nat) (cs : List Value) (xs : List (DataW H × List MemPlace)), cs.length = R.z → xs.length = ts.length →
    (∀ (i : Nat) t, ts[i]? = some t → DataW.trod enc P W 0 (fun _ => true) true fuel t ((cs.drop ((ts.take i).map P.cellsOf).sum).take (P.cellsOf t)) = xs[i]?) →
    (DataW.weightsEach P ts (xs.map (·.1))).all (· ≤ reachBytes) = true →
    (∀ c ∈ cs, c.oneCell' = true) ∧ ∃ y, R.is (InH W) (absH W) (cs.map (absV W)) y ∧ B y
theorem opensL_one {t : TypeId} {α : Type} {R : Rep α} {B : α → Prop} (h : OpensA enc P W t R B) : OpensL enc P W [t] R B := by
  refine ⟨by simp [h.1], fun fuel cs xs hc hx hh hw => ?_⟩
  match xs, hx with
  | [x], _ =>
    have h1 := hh 0 t rfl
    simp only [List.take_zero, List.map_nil, List.sum_nil, List.drop_zero, List.getElem?_cons_zero] at h1
    rw [h.1, ← hc, List.take_length] at h1
    simp only [List.map_cons, List.map_nil, DataW.weightsEach, List.append_nil] at hw
    exact (h.2 _ _ _ h1 hw).2
theorem opensL_cons {t : TypeId} {ts : List TypeId} {α β : Type} {R : Rep α} {S : Rep β} {B : α → Prop} {C : β → Prop} (h : OpensA enc P W t R B) (k : OpensL enc P W ts S C) : OpensL enc P W (t :: ts) (RPair R S) (fun x => B x.1 ∧ C x.2) := by
  refine ⟨by simp [h.1, k.1, RPair], fun fuel cs xs hc hx hh hw => ?_⟩
  match xs, hx with
  | x :: xs, hx =>
    have hcz : cs.length = R.z + S.z := hc
    have h1 := hh 0 t rfl
    simp only [List.take_zero, List.map_nil, List.sum_nil, List.drop_zero, List.getElem?_cons_zero, h.1] at h1
    simp only [List.map_cons, DataW.weightsEach, List.all_append, Bool.and_eq_true] at hw
    obtain ⟨g1, g2, y, g3, g4⟩ := h.2 _ _ _ h1 hw.1
    obtain ⟨q1, z, q2, q3⟩ := k.2 fuel (cs.drop R.z) xs (by rw [List.length_drop]; omega) (by simpa using hx) (fun i t' ht' => by
      have h2 := hh (i + 1) t' (by simpa using ht')
      rw [List.take_succ_cons, List.map_cons, List.sum_cons, h.1, ← List.drop_drop, List.getElem?_cons_succ] at h2
      exact h2) hw.2
    refine ⟨fun c hc => ?_, (y, z), ⟨(cs.take R.z).map (absV W), (cs.drop R.z).map (absV W), ?_, g3, q2⟩, g4, q3⟩
    · rw [← List.take_append_drop R.z cs] at hc
      exact (List.mem_append.1 hc).elim (g2 c) (q1 c)
    · rw [← List.map_append, List.take_append_drop]
/-- Do the fields follow one another? -/
def fieldsOk (P : Program) : List Field → Nat → Bool
  | [], _ => true
  | f :: r, k => Nat.beq f.offset k && fieldsOk P r (k + P.cellsOf f.type)
theorem fieldsOk_at : ∀ {fs : List Field} {k : Nat}, fieldsOk P fs k = true → ∀ (i : Nat) f, fs[i]? = some f → f.offset = k + (((fs.map (·.type)).take i).map P.cellsOf).sum
  | [], k, _, i, f, hf => by simp at hf
  | g :: r, k, h, i, f, hf => by
    simp only [fieldsOk, Bool.and_eq_true] at h
    cases i with
    | zero => simp at hf; subst hf; simpa using Nat.eq_of_beq_eq_true h.1
    | succ i =>
      have := fieldsOk_at h.2 i f (by simpa using hf)
      rw [this]
      simp only [List.map_cons, List.take_succ_cons, List.sum_cons]
      omega
theorem opensA_struct {t : TypeId} {fs : Array Field} {ts : List TypeId} {α β : Type} {R : Rep α} {B : α → Prop} {C : β → Prop} (f : β → α) (g : α → β) (hfg : ∀ y, f (g y) = y) (ht : P.underlying t = some (.struct fs)) (hts : fs.toList.map (·.type) = ts) (hok : fieldsOk P fs.toList 0 = true) (hc : P.cellsOf t = R.z)
    (h : OpensL enc P W ts R B) (hBC : ∀ y, B y → C (g y)) : OpensA enc P W t (RMap f R) C := by
  subst hts
  refine ⟨hc, fun fuel cs x hf hw => ?_⟩
  obtain ⟨xs, n, rfl, rfl, hcs, hxs, hel⟩ := DataW.trod_struct ht hf
  simp only [DataW.weights, ht] at hw
  rw [hc] at hcs
  obtain ⟨q1, y, q2, q3⟩ := h.2 n cs xs hcs (by simpa using hxs) (fun i t' ht' => by
    rw [List.getElem?_map] at ht'
    obtain ⟨fd, hfd, rfl⟩ := Option.map_eq_some_iff.1 ht'
    have := hel i fd (by simpa using hfd)
    rw [fieldsOk_at hok i fd hfd, Nat.zero_add] at this
    exact this) hw
  exact ⟨hcs, q1, g y, by show R.is _ _ _ (f (g y)); rw [hfg]; exact q2, hBC y q3⟩
end
section
variable {H : Type} {enc : TypeId × Value → H} {W : World}
theorem opensA_ints : OpensA enc Try.prog W 63 (RSl RInt) (fun ys => ys.length * 8 ≤ 140737488351232 ∧ ∀ y ∈ ys, True) :=
  opensA_list (R := RInt) (B := fun _ => True) Try.underlying63 (by kernel_rfl) (by kernel_rfl) (by decide) (opensA_int Try.underlying3 (by kernel_rfl))
end
end Go.Proofs.Ytkgbeihcepociaa.Ex
end

section

set_option linter.unusedSimpArgs false
set_option linter.unusedVariables false
namespace Go.Proofs.Ytkgbeihcepociaa.Ex
open Go Go.RowKit Go.ChangeShapes Go.WideShapes Go.ChangeAt
def OkPg (x : PgD) : Prop := True
def OkOsd (x : OsdD) : Prop := True
def OkPool (x : PoolD) : Prop := True
def OkBkt (x : BktD) : Prop := Sm 8 x.items ∧ Sm 8 x.weights
def OkMp (x : MapD) : Prop := (Sm 40 x.osds ∧ ∀ y ∈ x.osds, OkOsd y) ∧ (Sm 32 x.pools ∧ ∀ y ∈ x.pools, OkPool y) ∧ (Sm 64 x.buckets ∧ ∀ y ∈ x.buckets, OkBkt y)
section
variable {H : Type} {enc : TypeId × Value → H} {W : World}
theorem opensA_Pg : OpensA enc Try.prog W 56 RPg OkPg :=
  opensA_struct (ts := [3, 3]) (fun x : PgD => (x.pool, x.seed)) (fun y => ⟨y.1, y.2⟩) (fun y => rfl) Try.underlying56 (by rfl) (by kernel_rfl) (by kernel_rfl) (opensL_cons (opensA_int Try.underlying3 (by kernel_rfl)) (opensL_one (opensA_int Try.underlying3 (by kernel_rfl)))) (fun y ⟨_, _⟩ => trivial)
theorem opensA_Osd : OpensA enc Try.prog W 43 ROsd OkOsd :=
  opensA_struct (ts := [4, 4, 3, 3, 3, 3]) (fun x : OsdD => (x.ex, x.up, x.weight, x.boot, x.upFrom, x.upThru)) (fun y => ⟨y.1, y.2.1, y.2.2.1, y.2.2.2.1, y.2.2.2.2.1, y.2.2.2.2.2⟩) (fun y => rfl) Try.underlying43 (by rfl) (by kernel_rfl) (by kernel_rfl) (opensL_cons (opensA_bool Try.underlying4 (by kernel_rfl)) (opensL_cons (opensA_bool Try.underlying4 (by kernel_rfl)) (opensL_cons (opensA_int Try.underlying3 (by kernel_rfl)) (opensL_cons (opensA_int Try.underlying3 (by kernel_rfl)) (opensL_cons (opensA_int Try.underlying3 (by kernel_rfl)) (opensL_one (opensA_int Try.underlying3 (by kernel_rfl)))))))) (fun y ⟨_, _, _, _, _, _⟩ => trivial)
theorem opensA_Osds : OpensA enc Try.prog W 27 (RSl ROsd) (fun ys => Sm 40 ys ∧ ∀ y ∈ ys, OkOsd y) :=
  opensA_list Try.underlying27 (by kernel_rfl) (by kernel_rfl) (by decide) opensA_Osd
theorem opensA_Pool : OpensA enc Try.prog W 94 RPool OkPool :=
  opensA_struct (ts := [3, 3, 3, 3]) (fun x : PoolD => (x.id, x.size, x.min, x.pgs)) (fun y => ⟨y.1, y.2.1, y.2.2.1, y.2.2.2⟩) (fun y => rfl) Try.underlying94 (by rfl) (by kernel_rfl) (by kernel_rfl) (opensL_cons (opensA_int Try.underlying3 (by kernel_rfl)) (opensL_cons (opensA_int Try.underlying3 (by kernel_rfl)) (opensL_cons (opensA_int Try.underlying3 (by kernel_rfl)) (opensL_one (opensA_int Try.underlying3 (by kernel_rfl)))))) (fun y ⟨_, _, _, _⟩ => trivial)
theorem opensA_Pools : OpensA enc Try.prog W 28 (RSl RPool) (fun ys => Sm 32 ys ∧ ∀ y ∈ ys, OkPool y) :=
  opensA_list Try.underlying28 (by kernel_rfl) (by kernel_rfl) (by decide) opensA_Pool
theorem opensA_Bkt : OpensA enc Try.prog W 92 RBkt OkBkt :=
  opensA_struct (ts := [3, 3, 63, 63]) (fun x : BktD => (x.id, x.kind, x.items, x.weights)) (fun y => ⟨y.1, y.2.1, y.2.2.1, y.2.2.2⟩) (fun y => rfl) Try.underlying92 (by rfl) (by kernel_rfl) (by kernel_rfl) (opensL_cons (opensA_int Try.underlying3 (by kernel_rfl)) (opensL_cons (opensA_int Try.underlying3 (by kernel_rfl)) (opensL_cons opensA_ints (opensL_one opensA_ints)))) (fun y ⟨_, _, ⟨h2, _⟩, ⟨h3, _⟩⟩ => ⟨h2, h3⟩)
theorem opensA_Bkts : OpensA enc Try.prog W 29 (RSl RBkt) (fun ys => Sm 64 ys ∧ ∀ y ∈ ys, OkBkt y) :=
  opensA_list Try.underlying29 (by kernel_rfl) (by kernel_rfl) (by decide) opensA_Bkt
theorem opensA_Mp : OpensA enc Try.prog W 31 RMp OkMp :=
  opensA_struct (ts := [3, 27, 28, 29, 3]) (fun x : MapD => (x.epoch, x.osds, x.pools, x.buckets, x.leaf)) (fun y => ⟨y.1, y.2.1, y.2.2.1, y.2.2.2.1, y.2.2.2.2⟩) (fun y => rfl) Try.underlying31 (by rfl) (by kernel_rfl) (by kernel_rfl) (opensL_cons (opensA_int Try.underlying3 (by kernel_rfl)) (opensL_cons opensA_Osds (opensL_cons opensA_Pools (opensL_cons opensA_Bkts (opensL_one (opensA_int Try.underlying3 (by kernel_rfl))))))) (fun y ⟨_, h1, h2, h3, _⟩ => ⟨h1, h2, h3⟩)
theorem opensA_Mps : OpensA enc Try.prog W 33 (RSl RMp) (fun ys => Sm 88 ys ∧ ∀ y ∈ ys, OkMp y) :=
  opensA_list Try.underlying33 (by kernel_rfl) (by kernel_rfl) (by decide) opensA_Mp
end
end Go.Proofs.Ytkgbeihcepociaa.Ex
end

section

set_option linter.unusedSimpArgs false
set_option linter.unusedVariables false
set_option maxRecDepth 10000
set_option maxHeartbeats 4000000
namespace Go.Proofs.Ytkgbeihcepociaa.Ex
open Go
theorem OkMp.okM {m : MapD} (h : OkMp m) : OkM m := ⟨h.2.2.1, h.2.2.2, trivial⟩
def sameF (a b : MapD) (pool seed : Int) : Bool := (actF a pool seed == actF b pool seed) && (bootF a (actF a pool seed) == bootF b (actF b pool seed))
theorem ints_x {F G : Nat → Prop} {H : AH} {u v : AV} {xs ys : List Int} (hu : IsSl RInt F H u xs) (hv : IsSl RInt G H v ys) (hl : xs.length < 2 ^ 62) :
    WC Try.prog (tabOf Try.prog NT0) S0 40 [u, v] H fun r h' => h' = H ∧ r = .lit (.bool (xs == ys)) := by
  refine WC_fn Try.func40 rfl rfl ?_
  have s1 := hu.isSl
  have s2 := hu.lenD
  have s3 := hv.isSl
  have s4 := hv.lenD
  simp only [core, Nat.reduceAdd, Nat.reduceSub, Nat.reduceMul, Nat.reduceLT, Nat.reduceEqDiff, reduceCtorEq, Nat.reduceLeDiff, Int.reduceLE, Int.reduceLT, Int.reduceToNat, Try.ntmps40, s1, s2, s3, s4]
  refine ⟨fun he => ?_, fun he => ?_⟩
  · have : ¬ xs = ys := fun hh => by subst hh; simp at he
    congr 2
    simpa using this
  · have he : xs.length = ys.length := by simp at he; omega
    refine WB_for xs.length (fun i t h => h = H ∧ (xs.take i = ys.take i) ∧ t.n = 26 ∧ t.get 0 = u ∧ t.get 1 = v ∧ t.get 12 = .lit (.int .i64 xs.length) ∧ t.get 13 = .lit (.int .i64 i)) ?_ ?_ _ _ ?_
    · rintro i t h hlt hc ⟨rfl, hx, hn, g0, g1, g12, g13⟩ ih
      have hlt2 : i < ys.length := by omega
      have hld := hu.int (T := tabOf Try.prog NT0) (e := 3) (by kernel_rfl) (by kernel_rfl) hlt
      have hld2 := hv.int (T := tabOf Try.prog NT0) (e := 3) (by kernel_rfl) (by kernel_rfl) hlt2
      have hw := wrap_succ hlt (by omega)
      simp only [core, Nat.reduceAdd, Nat.reduceSub, Nat.reduceMul, Nat.reduceLT, Nat.reduceEqDiff, reduceCtorEq, Nat.reduceLeDiff, Int.reduceLE, Int.reduceLT, Int.reduceToNat, s1, s2, s3, s4, hn, g0, g1, g12, g13, hlt, hlt2, hc, hld, hw]
      rw [WB_regionD [0, 1, 2, 3, 4, 5, 6, 7, 8] 1205237335491016659828736 (by kernel_rfl)]
      repeat ((with_reducible refine WDM_cons ?_; simp only [dw1]; try simp only [dw2, Nat.reduceAdd, Nat.reduceMul, Nat.reduceShiftRight, Nat.reduceMod, Nat.reduceEqDiff]); simp only [core, Nat.reduceAdd, Nat.reduceSub, Nat.reduceMul, Nat.reduceLT, Nat.reduceEqDiff, reduceCtorEq, Nat.reduceLeDiff, Int.reduceLE, Int.reduceLT, Int.reduceToNat, cored, s1, s2, s3, s4, hn, g0, g1, g12, g13, hlt, hlt2, hc, hld, hld2, hw])
      have e1 : xs.getD i 0 = xs[i] := by simp [List.getD_eq_getElem?_getD, List.getElem?_eq_getElem hlt]
      have e2 : ys.getD i 0 = ys[i] := by simp [List.getD_eq_getElem?_getD, List.getElem?_eq_getElem hlt2]
      refine ⟨fun hq => ?_, fun hq => ?_⟩
      · have hq : ¬ xs.getD i 0 = ys.getD i 0 := by simpa using hq
        have : ¬ xs = ys := fun hh => by subst hh; exact hq rfl
        congr 2
        simpa using this
      · have hq : xs.getD i 0 = ys.getD i 0 := by simpa using hq
        refine ih _ _ ?_
        simp only [core, Nat.reduceAdd, Nat.reduceSub, Nat.reduceMul, Nat.reduceLT, Nat.reduceEqDiff, reduceCtorEq, Nat.reduceLeDiff, Int.reduceLE, Int.reduceLT, Int.reduceToNat, hn, g0, g1, g12, g13]
        rw [List.take_succ_eq_append_getElem hlt, List.take_succ_eq_append_getElem hlt2, hx, ← e1, ← e2, hq]
    · rintro t h hc ⟨rfl, hx, hn, g0, g1, g12, g13⟩
      simp only [core, Nat.reduceAdd, Nat.reduceSub, Nat.reduceMul, Nat.reduceLT, Nat.reduceEqDiff, reduceCtorEq, Nat.reduceLeDiff, Int.reduceLE, Int.reduceLT, Int.reduceToNat, s1, s2, hn, g0, g1, g12, g13, hc]
      rw [List.take_length, he, List.take_length] at hx
      simp [hx]
    · simp only [core, Nat.reduceAdd, Nat.reduceSub, Nat.reduceMul, Nat.reduceLT, Nat.reduceEqDiff, reduceCtorEq, Nat.reduceLeDiff, Int.reduceLE, Int.reduceLT, Int.reduceToNat]
      simp
theorem same_x {F G : Nat → Prop} {H : AH} {a b : MapD} {ao ap ab bo bp bb : AV} (pool seed : Int) (hma : MpAt F H a ao ap ab) (hmb : MpAt G H b bo bp bb) (ha : OkMp a) (hb : OkMp b) :
    WC Try.prog (tabOf Try.prog NT0) S0 28 [mpV a ao ap ab, mpV b bo bp bb, pgV pool seed] H fun v h' => Ext H.n H h' ∧ v = .lit (.bool (sameF a b pool seed)) := by
  refine WC_fn Try.func28 rfl rfl ?_
  have oa1 := hma.o.one
  have oa2 := hma.p.one
  have oa3 := hma.b.one
  have ob1 := hmb.o.one
  have ob2 := hmb.p.one
  have ob3 := hmb.b.one
  have ai1 := hma.o.isSl
  have ai2 := hma.p.isSl
  have ai3 := hma.b.isSl
  have bi1 := hmb.o.isSl
  have bi2 := hmb.p.isSl
  have bi3 := hmb.b.isSl
  simp only [core, Nat.reduceAdd, Nat.reduceSub, Nat.reduceMul, Nat.reduceLT, Nat.reduceEqDiff, reduceCtorEq, Nat.reduceLeDiff, Int.reduceLE, Int.reduceLT, Int.reduceToNat, Try.ntmps28, mpV, pgV, oa1, oa2, oa3, ob1, ob2, ob3]
  obtain ⟨h1, hh1⟩ : ∃ h1, h1 = ((H.push (.cells [.lit (.int .i64 a.epoch), ao, ap, ab, .lit (.int .i64 a.leaf)] 31)).push (.cells [.lit (.int .i64 b.epoch), bo, bp, bb, .lit (.int .i64 b.leaf)] 31)).push (.cells [.lit (.int .i64 pool), .lit (.int .i64 seed)] 56) := ⟨_, rfl⟩
  have E1 : Ext H.n H h1 := hh1 ▸ (((Ext.refl _ _).push _ (Nat.le_refl _)).push _ (by rw [n_push]; omega)).push _ (by rw [n_push, n_push]; omega)
  have A1 : h1.at H.n = some (.cells [.lit (.int .i64 a.epoch), ao, ap, ab, .lit (.int .i64 a.leaf)] 31) := hh1 ▸ (at_push_lt _ (by rw [n_push, n_push]; omega)).trans ((at_push_lt _ (by rw [n_push]; omega)).trans (at_push_n _ _))
  have B1 : h1.at (H.n + 1) = some (.cells [.lit (.int .i64 b.epoch), bo, bp, bb, .lit (.int .i64 b.leaf)] 31) := hh1 ▸ (at_push_lt _ (by rw [n_push, n_push]; omega)).trans (at_push_n _ _)
  have C1 : h1.at (H.n + 2) = some (.cells [.lit (.int .i64 pool), .lit (.int .i64 seed)] 56) := hh1 ▸ at_push_n _ _
  have la1 := at_lt A1
  have lb1 := at_lt B1
  have lc1 := at_lt C1
  have LA1 := ld_at (T := tabOf Try.prog NT0) A1
  have LB1 := ld_at (T := tabOf Try.prog NT0) B1
  have LC1 := ld_at (T := tabOf Try.prog NT0) C1
  rw [← hh1]
  clear hh1
  have l1 := actF_len (m := a) (pool := pool) (seed := seed)
  rw [WB_regionD [0, 1, 3, 4, 2, 5, 6, 7, 8, 9, 11, 12, 10, 13, 14, 15, 16] 497317544946356996440274708877975073207484893988855658752961144316584452967359508905984 (by kernel_rfl)]
  repeat ((with_reducible refine WDM_cons ?_; simp only [dw1]; try simp only [dw2, Nat.reduceAdd, Nat.reduceMul, Nat.reduceShiftRight, Nat.reduceMod, Nat.reduceEqDiff]); simp only [core, Nat.reduceAdd, Nat.reduceSub, Nat.reduceMul, Nat.reduceLT, Nat.reduceEqDiff, reduceCtorEq, Nat.reduceLeDiff, Int.reduceLE, Int.reduceLT, Int.reduceToNat, cored, LA1, la1, LB1, lb1, LC1, lc1, ai1, ai2, ai3, bi1, bi2, bi3])
  refine (act_x pool seed (hma.ext E1 (Nat.le_refl _)) ha.okM ha.1.1 ha.2.1.1).mono ?_
  rintro va h2 ⟨e2, hva⟩
  have E2 := E1.step e2
  have A2 := (e2.2 _ la1).trans A1
  have B2 := (e2.2 _ lb1).trans B1
  have C2 := (e2.2 _ lc1).trans C1
  have la2 := at_lt A2
  have lb2 := at_lt B2
  have lc2 := at_lt C2
  have LA2 := ld_at (T := tabOf Try.prog NT0) A2
  have LB2 := ld_at (T := tabOf Try.prog NT0) B2
  have LC2 := ld_at (T := tabOf Try.prog NT0) C2
  have sa := hva.isSl
  repeat ((with_reducible refine WDM_cons ?_; simp only [dw1]; try simp only [dw2, Nat.reduceAdd, Nat.reduceMul, Nat.reduceShiftRight, Nat.reduceMod, Nat.reduceEqDiff]); simp only [core, Nat.reduceAdd, Nat.reduceSub, Nat.reduceMul, Nat.reduceLT, Nat.reduceEqDiff, reduceCtorEq, Nat.reduceLeDiff, Int.reduceLE, Int.reduceLT, Int.reduceToNat, cored, LA2, la2, LB2, lb2, LC2, lc2, ai1, ai2, ai3, bi1, bi2, bi3, sa])
  refine (act_x pool seed (hmb.ext E2 (Nat.le_refl _)) hb.okM hb.1.1 hb.2.1.1).mono ?_
  rintro vb h3 ⟨e3, hvb⟩
  have E3 := E2.step e3
  have A3 := (e3.2 _ la2).trans A2
  have B3 := (e3.2 _ lb2).trans B2
  have C3 := (e3.2 _ lc2).trans C2
  have la3 := at_lt A3
  have lb3 := at_lt B3
  have lc3 := at_lt C3
  have LA3 := ld_at (T := tabOf Try.prog NT0) A3
  have LB3 := ld_at (T := tabOf Try.prog NT0) B3
  have LC3 := ld_at (T := tabOf Try.prog NT0) C3
  have sb := hvb.isSl
  repeat ((with_reducible refine WDM_cons ?_; simp only [dw1]; try simp only [dw2, Nat.reduceAdd, Nat.reduceMul, Nat.reduceShiftRight, Nat.reduceMod, Nat.reduceEqDiff]); simp only [core, Nat.reduceAdd, Nat.reduceSub, Nat.reduceMul, Nat.reduceLT, Nat.reduceEqDiff, reduceCtorEq, Nat.reduceLeDiff, Int.reduceLE, Int.reduceLT, Int.reduceToNat, cored, LA3, la3, LB3, lb3, LC3, lc3, ai1, ai2, ai3, bi1, bi2, bi3, sa, sb])
  refine (equal_x (hva.ext e3 (Nat.le_refl _)) hvb (by omega)).mono ?_
  rintro _ h4 ⟨rfl, rfl⟩
  cases hq : (actF a pool seed == actF b pool seed) with
  | false =>
    repeat ((with_reducible refine WDM_cons ?_; simp only [dw1]; try simp only [dw2, Nat.reduceAdd, Nat.reduceMul, Nat.reduceShiftRight, Nat.reduceMod, Nat.reduceEqDiff]); simp only [core, Nat.reduceAdd, Nat.reduceSub, Nat.reduceMul, Nat.reduceLT, Nat.reduceEqDiff, reduceCtorEq, Nat.reduceLeDiff, Int.reduceLE, Int.reduceLT, Int.reduceToNat, cored, LA3, la3, LB3, lb3, LC3, lc3, ai1, ai2, ai3, bi1, bi2, bi3, sa, sb])
    exact ⟨E3, by unfold sameF; rw [hq]; rfl⟩
  | true =>
  repeat ((with_reducible refine WDM_cons ?_; simp only [dw1]; try simp only [dw2, Nat.reduceAdd, Nat.reduceMul, Nat.reduceShiftRight, Nat.reduceMod, Nat.reduceEqDiff]); simp only [core, Nat.reduceAdd, Nat.reduceSub, Nat.reduceMul, Nat.reduceLT, Nat.reduceEqDiff, reduceCtorEq, Nat.reduceLeDiff, Int.reduceLE, Int.reduceLT, Int.reduceToNat, cored, LA3, la3, LB3, lb3, LC3, lc3, ai1, ai2, ai3, bi1, bi2, bi3, sa, sb])
  refine (boots_x pool seed (hma.ext E3 (Nat.le_refl _)) ha.okM ha.1.1 ha.2.1.1).mono ?_
  rintro wa h4 ⟨e4, hwa⟩
  have E4 := E3.step e4
  have A4 := (e4.2 _ la3).trans A3
  have B4 := (e4.2 _ lb3).trans B3
  have C4 := (e4.2 _ lc3).trans C3
  have la4 := at_lt A4
  have lb4 := at_lt B4
  have lc4 := at_lt C4
  have LA4 := ld_at (T := tabOf Try.prog NT0) A4
  have LB4 := ld_at (T := tabOf Try.prog NT0) B4
  have LC4 := ld_at (T := tabOf Try.prog NT0) C4
  have ta := hwa.isSl
  repeat ((with_reducible refine WDM_cons ?_; simp only [dw1]; try simp only [dw2, Nat.reduceAdd, Nat.reduceMul, Nat.reduceShiftRight, Nat.reduceMod, Nat.reduceEqDiff]); simp only [core, Nat.reduceAdd, Nat.reduceSub, Nat.reduceMul, Nat.reduceLT, Nat.reduceEqDiff, reduceCtorEq, Nat.reduceLeDiff, Int.reduceLE, Int.reduceLT, Int.reduceToNat, cored, LA4, la4, LB4, lb4, LC4, lc4, ai1, ai2, ai3, bi1, bi2, bi3, sa, sb, ta])
  refine (boots_x pool seed (hmb.ext E4 (Nat.le_refl _)) hb.okM hb.1.1 hb.2.1.1).mono ?_
  rintro wb h5 ⟨e5, hwb⟩
  have E5 := E4.step e5
  have A5 := (e5.2 _ la4).trans A4
  have B5 := (e5.2 _ lb4).trans B4
  have C5 := (e5.2 _ lc4).trans C4
  have la5 := at_lt A5
  have lb5 := at_lt B5
  have lc5 := at_lt C5
  have LA5 := ld_at (T := tabOf Try.prog NT0) A5
  have LB5 := ld_at (T := tabOf Try.prog NT0) B5
  have LC5 := ld_at (T := tabOf Try.prog NT0) C5
  have tb := hwb.isSl
  repeat ((with_reducible refine WDM_cons ?_; simp only [dw1]; try simp only [dw2, Nat.reduceAdd, Nat.reduceMul, Nat.reduceShiftRight, Nat.reduceMod, Nat.reduceEqDiff]); simp only [core, Nat.reduceAdd, Nat.reduceSub, Nat.reduceMul, Nat.reduceLT, Nat.reduceEqDiff, reduceCtorEq, Nat.reduceLeDiff, Int.reduceLE, Int.reduceLT, Int.reduceToNat, cored, LA5, la5, LB5, lb5, LC5, lc5, ai1, ai2, ai3, bi1, bi2, bi3, sa, sb, ta, tb])
  refine (equal_x (hwa.ext e5 (Nat.le_refl _)) hwb (by unfold bootF; rw [List.length_map]; omega)).mono ?_
  rintro _ h6 ⟨rfl, rfl⟩
  repeat ((with_reducible refine WDM_cons ?_; simp only [dw1]; try simp only [dw2, Nat.reduceAdd, Nat.reduceMul, Nat.reduceShiftRight, Nat.reduceMod, Nat.reduceEqDiff]); simp only [core, Nat.reduceAdd, Nat.reduceSub, Nat.reduceMul, Nat.reduceLT, Nat.reduceEqDiff, reduceCtorEq, Nat.reduceLeDiff, Int.reduceLE, Int.reduceLT, Int.reduceToNat, cored, LA5, la5, LB5, lb5, LC5, lc5, ai1, ai2, ai3, bi1, bi2, bi3, sa, sb, ta, tb])
  exact ⟨E5, by unfold sameF; rw [hq]; rfl⟩
theorem sameR_x {F G : Nat → Prop} {H : AH} {a b : MapD} {ao ap ab bo bp bb : AV} (pool seed : Int) (hma : MpAt F H a ao ap ab) (hmb : MpAt G H b bo bp bb) (ha : OkMp a) (hb : OkMp b) :
    WC Try.prog (tabOf Try.prog NT0) S0 29 [mpV a ao ap ab, mpV b bo bp bb, pgV pool seed] H fun v h' => Ext H.n H h' ∧ v = .lit (.bool (sameF a b pool seed)) := by
  refine WC_fn Try.func29 rfl rfl ?_
  have oa1 := hma.o.one
  have oa2 := hma.p.one
  have oa3 := hma.b.one
  have ob1 := hmb.o.one
  have ob2 := hmb.p.one
  have ob3 := hmb.b.one
  have ai1 := hma.o.isSl
  have ai2 := hma.p.isSl
  have ai3 := hma.b.isSl
  have bi1 := hmb.o.isSl
  have bi2 := hmb.p.isSl
  have bi3 := hmb.b.isSl
  simp only [core, Nat.reduceAdd, Nat.reduceSub, Nat.reduceMul, Nat.reduceLT, Nat.reduceEqDiff, reduceCtorEq, Nat.reduceLeDiff, Int.reduceLE, Int.reduceLT, Int.reduceToNat, Try.ntmps29, mpV, pgV, oa1, oa2, oa3, ob1, ob2, ob3]
  obtain ⟨h1, hh1⟩ : ∃ h1, h1 = ((H.push (.cells [.lit (.int .i64 a.epoch), ao, ap, ab, .lit (.int .i64 a.leaf)] 31)).push (.cells [.lit (.int .i64 b.epoch), bo, bp, bb, .lit (.int .i64 b.leaf)] 31)).push (.cells [.lit (.int .i64 pool), .lit (.int .i64 seed)] 56) := ⟨_, rfl⟩
  have E1 : Ext H.n H h1 := hh1 ▸ (((Ext.refl _ _).push _ (Nat.le_refl _)).push _ (by rw [n_push]; omega)).push _ (by rw [n_push, n_push]; omega)
  have A1 : h1.at H.n = some (.cells [.lit (.int .i64 a.epoch), ao, ap, ab, .lit (.int .i64 a.leaf)] 31) := hh1 ▸ (at_push_lt _ (by rw [n_push, n_push]; omega)).trans ((at_push_lt _ (by rw [n_push]; omega)).trans (at_push_n _ _))
  have B1 : h1.at (H.n + 1) = some (.cells [.lit (.int .i64 b.epoch), bo, bp, bb, .lit (.int .i64 b.leaf)] 31) := hh1 ▸ (at_push_lt _ (by rw [n_push, n_push]; omega)).trans (at_push_n _ _)
  have C1 : h1.at (H.n + 2) = some (.cells [.lit (.int .i64 pool), .lit (.int .i64 seed)] 56) := hh1 ▸ at_push_n _ _
  have la1 := at_lt A1
  have lb1 := at_lt B1
  have lc1 := at_lt C1
  have LA1 := ld_at (T := tabOf Try.prog NT0) A1
  have LB1 := ld_at (T := tabOf Try.prog NT0) B1
  have LC1 := ld_at (T := tabOf Try.prog NT0) C1
  rw [← hh1]
  clear hh1
  have l1 := actF_len (m := a) (pool := pool) (seed := seed)
  rw [WB_regionD [0, 1, 3, 4, 2, 5, 6, 7, 8, 9, 11, 12, 10, 13, 14, 15, 16] 497317544946356996440274708877975073207484893988855658752961144316584452967359508905984 (by kernel_rfl)]
  repeat ((with_reducible refine WDM_cons ?_; simp only [dw1]; try simp only [dw2, Nat.reduceAdd, Nat.reduceMul, Nat.reduceShiftRight, Nat.reduceMod, Nat.reduceEqDiff]); simp only [core, Nat.reduceAdd, Nat.reduceSub, Nat.reduceMul, Nat.reduceLT, Nat.reduceEqDiff, reduceCtorEq, Nat.reduceLeDiff, Int.reduceLE, Int.reduceLT, Int.reduceToNat, cored, LA1, la1, LB1, lb1, LC1, lc1, ai1, ai2, ai3, bi1, bi2, bi3])
  refine (actR_x pool seed (hma.ext E1 (Nat.le_refl _)) ha.okM ha.1.1 ha.2.1.1).mono ?_
  rintro va h2 ⟨e2, hva⟩
  have E2 := E1.step e2
  have A2 := (e2.2 _ la1).trans A1
  have B2 := (e2.2 _ lb1).trans B1
  have C2 := (e2.2 _ lc1).trans C1
  have la2 := at_lt A2
  have lb2 := at_lt B2
  have lc2 := at_lt C2
  have LA2 := ld_at (T := tabOf Try.prog NT0) A2
  have LB2 := ld_at (T := tabOf Try.prog NT0) B2
  have LC2 := ld_at (T := tabOf Try.prog NT0) C2
  have sa := hva.isSl
  repeat ((with_reducible refine WDM_cons ?_; simp only [dw1]; try simp only [dw2, Nat.reduceAdd, Nat.reduceMul, Nat.reduceShiftRight, Nat.reduceMod, Nat.reduceEqDiff]); simp only [core, Nat.reduceAdd, Nat.reduceSub, Nat.reduceMul, Nat.reduceLT, Nat.reduceEqDiff, reduceCtorEq, Nat.reduceLeDiff, Int.reduceLE, Int.reduceLT, Int.reduceToNat, cored, LA2, la2, LB2, lb2, LC2, lc2, ai1, ai2, ai3, bi1, bi2, bi3, sa])
  refine (actR_x pool seed (hmb.ext E2 (Nat.le_refl _)) hb.okM hb.1.1 hb.2.1.1).mono ?_
  rintro vb h3 ⟨e3, hvb⟩
  have E3 := E2.step e3
  have A3 := (e3.2 _ la2).trans A2
  have B3 := (e3.2 _ lb2).trans B2
  have C3 := (e3.2 _ lc2).trans C2
  have la3 := at_lt A3
  have lb3 := at_lt B3
  have lc3 := at_lt C3
  have LA3 := ld_at (T := tabOf Try.prog NT0) A3
  have LB3 := ld_at (T := tabOf Try.prog NT0) B3
  have LC3 := ld_at (T := tabOf Try.prog NT0) C3
  have sb := hvb.isSl
  repeat ((with_reducible refine WDM_cons ?_; simp only [dw1]; try simp only [dw2, Nat.reduceAdd, Nat.reduceMul, Nat.reduceShiftRight, Nat.reduceMod, Nat.reduceEqDiff]); simp only [core, Nat.reduceAdd, Nat.reduceSub, Nat.reduceMul, Nat.reduceLT, Nat.reduceEqDiff, reduceCtorEq, Nat.reduceLeDiff, Int.reduceLE, Int.reduceLT, Int.reduceToNat, cored, LA3, la3, LB3, lb3, LC3, lc3, ai1, ai2, ai3, bi1, bi2, bi3, sa, sb])
  refine (ints_x (hva.ext e3 (Nat.le_refl _)) hvb (by omega)).mono ?_
  rintro _ h4 ⟨rfl, rfl⟩
  cases hq : (actF a pool seed == actF b pool seed) with
  | false =>
    repeat ((with_reducible refine WDM_cons ?_; simp only [dw1]; try simp only [dw2, Nat.reduceAdd, Nat.reduceMul, Nat.reduceShiftRight, Nat.reduceMod, Nat.reduceEqDiff]); simp only [core, Nat.reduceAdd, Nat.reduceSub, Nat.reduceMul, Nat.reduceLT, Nat.reduceEqDiff, reduceCtorEq, Nat.reduceLeDiff, Int.reduceLE, Int.reduceLT, Int.reduceToNat, cored, LA3, la3, LB3, lb3, LC3, lc3, ai1, ai2, ai3, bi1, bi2, bi3, sa, sb])
    exact ⟨E3, by unfold sameF; rw [hq]; rfl⟩
  | true =>
  repeat ((with_reducible refine WDM_cons ?_; simp only [dw1]; try simp only [dw2, Nat.reduceAdd, Nat.reduceMul, Nat.reduceShiftRight, Nat.reduceMod, Nat.reduceEqDiff]); simp only [core, Nat.reduceAdd, Nat.reduceSub, Nat.reduceMul, Nat.reduceLT, Nat.reduceEqDiff, reduceCtorEq, Nat.reduceLeDiff, Int.reduceLE, Int.reduceLT, Int.reduceToNat, cored, LA3, la3, LB3, lb3, LC3, lc3, ai1, ai2, ai3, bi1, bi2, bi3, sa, sb])
  refine (bootsR_x pool seed (hma.ext E3 (Nat.le_refl _)) ha.okM ha.1.1 ha.2.1.1).mono ?_
  rintro wa h4 ⟨e4, hwa⟩
  have E4 := E3.step e4
  have A4 := (e4.2 _ la3).trans A3
  have B4 := (e4.2 _ lb3).trans B3
  have C4 := (e4.2 _ lc3).trans C3
  have la4 := at_lt A4
  have lb4 := at_lt B4
  have lc4 := at_lt C4
  have LA4 := ld_at (T := tabOf Try.prog NT0) A4
  have LB4 := ld_at (T := tabOf Try.prog NT0) B4
  have LC4 := ld_at (T := tabOf Try.prog NT0) C4
  have ta := hwa.isSl
  repeat ((with_reducible refine WDM_cons ?_; simp only [dw1]; try simp only [dw2, Nat.reduceAdd, Nat.reduceMul, Nat.reduceShiftRight, Nat.reduceMod, Nat.reduceEqDiff]); simp only [core, Nat.reduceAdd, Nat.reduceSub, Nat.reduceMul, Nat.reduceLT, Nat.reduceEqDiff, reduceCtorEq, Nat.reduceLeDiff, Int.reduceLE, Int.reduceLT, Int.reduceToNat, cored, LA4, la4, LB4, lb4, LC4, lc4, ai1, ai2, ai3, bi1, bi2, bi3, sa, sb, ta])
  refine (bootsR_x pool seed (hmb.ext E4 (Nat.le_refl _)) hb.okM hb.1.1 hb.2.1.1).mono ?_
  rintro wb h5 ⟨e5, hwb⟩
  have E5 := E4.step e5
  have A5 := (e5.2 _ la4).trans A4
  have B5 := (e5.2 _ lb4).trans B4
  have C5 := (e5.2 _ lc4).trans C4
  have la5 := at_lt A5
  have lb5 := at_lt B5
  have lc5 := at_lt C5
  have LA5 := ld_at (T := tabOf Try.prog NT0) A5
  have LB5 := ld_at (T := tabOf Try.prog NT0) B5
  have LC5 := ld_at (T := tabOf Try.prog NT0) C5
  have tb := hwb.isSl
  repeat ((with_reducible refine WDM_cons ?_; simp only [dw1]; try simp only [dw2, Nat.reduceAdd, Nat.reduceMul, Nat.reduceShiftRight, Nat.reduceMod, Nat.reduceEqDiff]); simp only [core, Nat.reduceAdd, Nat.reduceSub, Nat.reduceMul, Nat.reduceLT, Nat.reduceEqDiff, reduceCtorEq, Nat.reduceLeDiff, Int.reduceLE, Int.reduceLT, Int.reduceToNat, cored, LA5, la5, LB5, lb5, LC5, lc5, ai1, ai2, ai3, bi1, bi2, bi3, sa, sb, ta, tb])
  refine (ints_x (hwa.ext e5 (Nat.le_refl _)) hwb (by unfold bootF; rw [List.length_map]; omega)).mono ?_
  rintro _ h6 ⟨rfl, rfl⟩
  repeat ((with_reducible refine WDM_cons ?_; simp only [dw1]; try simp only [dw2, Nat.reduceAdd, Nat.reduceMul, Nat.reduceShiftRight, Nat.reduceMod, Nat.reduceEqDiff]); simp only [core, Nat.reduceAdd, Nat.reduceSub, Nat.reduceMul, Nat.reduceLT, Nat.reduceEqDiff, reduceCtorEq, Nat.reduceLeDiff, Int.reduceLE, Int.reduceLT, Int.reduceToNat, cored, LA5, la5, LB5, lb5, LC5, lc5, ai1, ai2, ai3, bi1, bi2, bi3, sa, sb, ta, tb])
  exact ⟨E5, by unfold sameF; rw [hq]; rfl⟩
end Go.Proofs.Ytkgbeihcepociaa.Ex
end

section

set_option linter.unusedSimpArgs false
set_option linter.unusedVariables false
set_option maxRecDepth 10000
set_option maxHeartbeats 4000000
namespace Go.Proofs.Ytkgbeihcepociaa.Ex
open Go
def askF (les : Int) (x : IvD) : Bool := x.mayRw && decide (les ≤ x.first)
def priorF (les : Int) (l : List IvD) : List IvD := l.dropLast.filter (askF les)
theorem prior_step (les : Int) {xs : List IvD} {i : Nat} {x : IvD} (hx : xs[i]? = some x) (hi : i < xs.length - 1) : (xs.dropLast.take (i + 1)).filter (askF les) = (xs.dropLast.take i).filter (askF les) ++ (if askF les x then [x] else []) := by
  have h1 : xs.dropLast[i]? = some x := by rw [List.getElem?_dropLast, if_pos hi, hx]
  rw [List.take_add_one, h1, List.filter_append]
  cases h : askF les x <;> simp [h]
theorem prior_stay (les : Int) {xs : List IvD} {i : Nat} (hi : ¬ i < xs.length - 1) : (xs.dropLast.take (i + 1)).filter (askF les) = (xs.dropLast.take i).filter (askF les) := by
  rw [List.take_of_length_le (by rw [List.length_dropLast]; omega), List.take_of_length_le (by rw [List.length_dropLast]; omega)]
theorem prior_x {F : Nat → Prop} {H : AH} {v : AV} {xs : List IvD} (les : Int) (hv : IsSl RIv F H v xs) (hl : xs.length * 72 ≤ 140737488355328) (hs : ∀ x ∈ xs, x.acting.length * 8 ≤ 140737488355328 ∧ x.boots.length * 8 ≤ 140737488355328) :
    WC Try.prog (tabOf Try.prog NT0) S0 38 [v, .lit (.int .i64 les)] H fun r h' => Ext H.n H h' ∧ IsSl RIv (fun b => H.n ≤ b) h' r (priorF les xs) := by
  refine WC_fn Try.func38 rfl rfl ?_
  have s1 := hv.isSl
  have s2 := hv.lenD
  simp only [core, Nat.reduceAdd, Nat.reduceSub, Nat.reduceMul, Nat.reduceLT, Nat.reduceEqDiff, reduceCtorEq, Nat.reduceLeDiff, Int.reduceLE, Int.reduceLT, Int.reduceToNat, Try.ntmps38, s1, s2]
  refine WB_for xs.length (fun i t h => ∃ o, OwnL RIv (fun b => H.n ≤ b) H.n h o 65 ((xs.dropLast.take i).filter (askF les)) ∧ Ext H.n H h ∧ t.n = 46 ∧ t.get 0 = v ∧ t.get 1 = .lit (.int .i64 les) ∧ t.get 5 = o ∧ t.get 8 = v ∧ t.get 9 = .lit (.int .i64 xs.length) ∧ t.get 10 = .lit (.int .i64 i)) ?_ ?_ _ _ ?_
  · rintro i t h hlt hc ⟨o, ho, he, hn, g0, g1, g5, g8, g9, g10⟩ ih
    obtain ⟨x, hx⟩ : ∃ x, xs[i]? = some x := ⟨_, List.getElem?_eq_getElem hlt⟩
    have hv1 := hv.ext he (Nat.le_refl _)
    obtain ⟨c, hc1, hld, hld0⟩ := hv1.at (T := tabOf Try.prog NT0) RIv_z hx
    obtain ⟨va, vb, rfl, ha, hb, i1, i2⟩ := RIv_is.1 hc1
    have a1 := ha.one
    have b1 := hb.one
    have hw := wrap_succ hlt (by omega)
    have hw2 : IntKind.i64.wrap ((xs.length : Int) - 1) = (xs.length : Int) - 1 := wrap_in (by omega) (by omega)
    simp only [core, Nat.reduceAdd, Nat.reduceSub, Nat.reduceMul, Nat.reduceLT, Nat.reduceEqDiff, reduceCtorEq, Nat.reduceLeDiff, Int.reduceLE, Int.reduceLT, Int.reduceToNat, s1, s2, hn, g0, g1, g5, g8, g9, g10, hlt, hc, hld, hld0, hw, hw2, a1, b1]
    have hEp : ∀ y, Ext H.n H (h.push y) := fun y => he.push _ he.1
    have hOp : ∀ y, OwnL RIv (fun b => H.n ≤ b) H.n (h.push y) o 65 ((xs.dropLast.take i).filter (askF les)) := fun y => ho.ext ((Ext.refl h.n h).push _ (Nat.le_refl _)) (Nat.le_refl _)
    refine WReg_if (fun hp => ?_) (fun hp => ?_)
    · have hp' : i < xs.length - 1 := by omega
      have hst := prior_step les hx hp'
      simp only [core, Nat.reduceAdd, Nat.reduceSub, Nat.reduceMul, Nat.reduceLT, Nat.reduceEqDiff, reduceCtorEq, Nat.reduceLeDiff, Int.reduceLE, Int.reduceLT, Int.reduceToNat, s1, s2, hn, g0, g1, g5, g8, g9, g10, hlt, hc, hld, hld0, hw, hw2, a1, b1, hp]
      refine WReg_bool (fun hm => ?_) (fun hm => ?_)
      · simp only [core, Nat.reduceAdd, Nat.reduceSub, Nat.reduceMul, Nat.reduceLT, Nat.reduceEqDiff, reduceCtorEq, Nat.reduceLeDiff, Int.reduceLE, Int.reduceLT, Int.reduceToNat, s1, s2, hn, g0, g1, g5, g8, g9, g10, hlt, hc, hld, hld0, hw, hw2, a1, b1, hp, hm]
        refine ⟨fun hf => ?_, fun hf => ?_⟩
        · obtain ⟨hxa, hxb⟩ := hs x (List.mem_of_getElem? hx)
          have a2 := ha.isSl
          have b2 := hb.isSl
          obtain ⟨hp0, hhp⟩ : ∃ hp, hp = h.push (.cells [.lit (.int .i64 x.first), .lit (.int .i64 x.last), va, vb, .lit (.bool true)] 65) := ⟨_, rfl⟩
          have E0 : Ext h.n h hp0 := hhp ▸ (Ext.refl _ _).push _ (Nat.le_refl _)
          have N0 : h.n < hp0.n := by rw [hhp, n_push]; omega
          have A0 : hp0.at h.n = some (.cells [.lit (.int .i64 x.first), .lit (.int .i64 x.last), va, vb, .lit (.bool true)] 65) := hhp ▸ at_push_n h _
          have L0 := ld_at (T := tabOf Try.prog NT0) A0
          rw [← hhp]
          rw [WB_regionD [0, 1, 2, 3, 4, 5, 6, 8, 9, 7, 10, 11, 12, 13, 14] 26958712494789967440197941925978245997487457871979597058109402513408 (by kernel_rfl)]
          repeat ((with_reducible refine WDM_cons ?_; simp only [dw1]; try simp only [dw2, Nat.reduceAdd, Nat.reduceMul, Nat.reduceShiftRight, Nat.reduceMod, Nat.reduceEqDiff]); simp only [core, Nat.reduceAdd, Nat.reduceSub, Nat.reduceMul, Nat.reduceLT, Nat.reduceEqDiff, reduceCtorEq, Nat.reduceLeDiff, Int.reduceLE, Int.reduceLT, Int.reduceToNat, cored, s1, s2, hn, g0, g1, g5, g8, g9, g10, hlt, hc, hw, hw2, a1, b1, a2, b2, L0])
          refine (clone_x (ha.ext E0 (Nat.le_refl _)) hxa).mono ?_
          rintro ra h1 ⟨E1, ra1, -⟩
          have A1 : h1.at h.n = some (.cells [.lit (.int .i64 x.first), .lit (.int .i64 x.last), va, vb, .lit (.bool true)] 65) := (E1.2 _ N0).trans A0
          have L1 := ld_at (T := tabOf Try.prog NT0) A1
          repeat ((with_reducible refine WDM_cons ?_; simp only [dw1]; try simp only [dw2, Nat.reduceAdd, Nat.reduceMul, Nat.reduceShiftRight, Nat.reduceMod, Nat.reduceEqDiff]); simp only [core, Nat.reduceAdd, Nat.reduceSub, Nat.reduceMul, Nat.reduceLT, Nat.reduceEqDiff, reduceCtorEq, Nat.reduceLeDiff, Int.reduceLE, Int.reduceLT, Int.reduceToNat, cored, s1, s2, hn, g0, g1, g5, g8, g9, g10, hlt, hc, hw, hw2, a1, b1, a2, b2, L1])
          refine (clone_x ((hb.ext E0 (Nat.le_refl _)).ext E1 (Nat.le_refl _)) hxb).mono ?_
          rintro rb h2 ⟨E2, rb1, -⟩
          have A2 : h2.at h.n = some (.cells [.lit (.int .i64 x.first), .lit (.int .i64 x.last), va, vb, .lit (.bool true)] 65) := (E2.2 _ (by have := E1.1; omega)).trans A1
          have L2 := ld_at (T := tabOf Try.prog NT0) A2
          have a3 := ra1.one
          have b3 := rb1.one
          have N2 : h.n < h2.n := by have := E1.1; have := E2.1; omega
          repeat ((with_reducible refine WDM_cons ?_; simp only [dw1]; try simp only [dw2, Nat.reduceAdd, Nat.reduceMul, Nat.reduceShiftRight, Nat.reduceMod, Nat.reduceEqDiff]); simp only [core, Nat.reduceAdd, Nat.reduceSub, Nat.reduceMul, Nat.reduceLT, Nat.reduceEqDiff, reduceCtorEq, Nat.reduceLeDiff, Int.reduceLE, Int.reduceLT, Int.reduceToNat, cored, s1, s2, hn, g0, g1, g5, g8, g9, g10, hlt, hc, hw, hw2, a1, b1, a2, b2, L2, a3, b3, N2])
          obtain ⟨h3, hh3⟩ : ∃ h3, h3 = h2.push (.cells [.lit (.int .i64 x.first), .lit (.int .i64 x.last), ra, rb, .lit (.bool true)] 65) := ⟨_, rfl⟩
          have E3 : Ext h2.n h2 h3 := hh3 ▸ (Ext.refl _ _).push _ (Nat.le_refl _)
          have A3 : h3.at h2.n = some (.cells [.lit (.int .i64 x.first), .lit (.int .i64 x.last), ra, rb, .lit (.bool true)] 65) := hh3 ▸ at_push_n h2 _
          have ho3 := (((ho.ext E0 (Nat.le_refl _)).ext E1 (Nat.le_refl _)).ext E2 (Nat.le_refl _)).ext E3 (Nat.le_refl _)
          have hE3 : Ext H.n H h3 := ((he.trans (E0.mono he.1)).trans (E1.mono (by have := he.1; omega))).trans ((E2.mono (by have := he.1; have := E1.1; omega)).trans (E3.mono (by have := he.1; omega)))
          rw [← hh3]
          have hlen : ((xs.dropLast.take i).filter (askF les)).length + 1 ≤ xs.length := by
            have := List.length_filter_le (askF les) (xs.dropLast.take i)
            rw [List.length_take, List.length_dropLast] at this
            omega
          refine WOpD_app (ho3.snoc (by kernel_rfl) (by kernel_rfl) (by kernel_rfl) (zv := .agg [.lit (.int .i64 0), .lit (.int .i64 0), .lit (.slice none 0 0), .lit (.slice none 0 0), .lit (.bool false)]) (by kernel_rfl) (by' := 72) (by kernel_rfl) rfl (by decide) (by decide) A3
            (y := x) (RIv_is.2 ⟨ra, rb, by rw [hm], ?_, ?_, i1, i2⟩) (by omega) (by omega) hE3.1) ?_
          · exact ra1.lift fun b hb hlt => ⟨(E3.2 b (by have := E2.1; omega)).trans (E2.2 b hlt), by have := he.1; omega, ho.apart (by omega)⟩
          · exact rb1.lift fun b hb hlt => ⟨E3.2 b hlt, by have := he.1; have := E1.1; omega, ho.apart (by have := E1.1; omega)⟩
          · rintro s' h' ⟨o1, e1, -⟩
            repeat ((with_reducible refine WDM_cons ?_; simp only [dw1]; try simp only [dw2, Nat.reduceAdd, Nat.reduceMul, Nat.reduceShiftRight, Nat.reduceMod, Nat.reduceEqDiff]); simp only [core, Nat.reduceAdd, Nat.reduceSub, Nat.reduceMul, Nat.reduceLT, Nat.reduceEqDiff, reduceCtorEq, Nat.reduceLeDiff, Int.reduceLE, Int.reduceLT, Int.reduceToNat, cored, s1, s2, hn, g0, g1, g5, g8, g9, g10, hlt, hc, hw, hw2, a1, b1, a2, b2, L2, a3, b3, N2])
            refine ih _ _ ⟨s', ?_, hE3.trans e1, ?_⟩
            · rw [hst, if_pos (by simp [askF, hm, hf])]
              exact o1
            · simp only [core, Nat.reduceAdd, Nat.reduceSub, Nat.reduceMul, Nat.reduceLT, Nat.reduceEqDiff, reduceCtorEq, Nat.reduceLeDiff, Int.reduceLE, Int.reduceLT, Int.reduceToNat, hn, g0, g1, g5, g8, g9, g10]
        · refine ih _ _ ⟨o, ?_, hEp _, ?_⟩
          · rw [hst, if_neg (by simp [askF, hm]; simpa using hf), List.append_nil]
            exact hOp _
          · simp only [core, Nat.reduceAdd, Nat.reduceSub, Nat.reduceMul, Nat.reduceLT, Nat.reduceEqDiff, reduceCtorEq, Nat.reduceLeDiff, Int.reduceLE, Int.reduceLT, Int.reduceToNat, hn, g0, g1, g5, g8, g9, g10]
      · simp only [core, Nat.reduceAdd, Nat.reduceSub, Nat.reduceMul, Nat.reduceLT, Nat.reduceEqDiff, reduceCtorEq, Nat.reduceLeDiff, Int.reduceLE, Int.reduceLT, Int.reduceToNat, s1, s2, hn, g0, g1, g5, g8, g9, g10, hlt, hc, hld, hld0, hw, hw2, a1, b1, hp, hm]
        refine ih _ _ ⟨o, ?_, hEp _, ?_⟩
        · rw [hst, if_neg (by simp [askF, hm]), List.append_nil]
          exact hOp _
        · simp only [core, Nat.reduceAdd, Nat.reduceSub, Nat.reduceMul, Nat.reduceLT, Nat.reduceEqDiff, reduceCtorEq, Nat.reduceLeDiff, Int.reduceLE, Int.reduceLT, Int.reduceToNat, hn, g0, g1, g5, g8, g9, g10]
    · have hp' : ¬ i < xs.length - 1 := by omega
      simp only [core, Nat.reduceAdd, Nat.reduceSub, Nat.reduceMul, Nat.reduceLT, Nat.reduceEqDiff, reduceCtorEq, Nat.reduceLeDiff, Int.reduceLE, Int.reduceLT, Int.reduceToNat, s1, s2, hn, g0, g1, g5, g8, g9, g10, hlt, hc, hld, hld0, hw, hw2, a1, b1, hp]
      refine ih _ _ ⟨o, ?_, hEp _, ?_⟩
      · rw [prior_stay les hp']
        exact hOp _
      · simp only [core, Nat.reduceAdd, Nat.reduceSub, Nat.reduceMul, Nat.reduceLT, Nat.reduceEqDiff, reduceCtorEq, Nat.reduceLeDiff, Int.reduceLE, Int.reduceLT, Int.reduceToNat, hn, g0, g1, g5, g8, g9, g10]
  · rintro t h hc ⟨o, ho, he, hn, g0, g1, g5, g8, g9, g10⟩
    simp only [core, Nat.reduceAdd, Nat.reduceSub, Nat.reduceMul, Nat.reduceLT, Nat.reduceEqDiff, reduceCtorEq, Nat.reduceLeDiff, Int.reduceLE, Int.reduceLT, Int.reduceToNat, s1, s2, hn, g0, g1, g5, g8, g9, g10, hc]
    refine ⟨he, ?_⟩
    rw [List.take_of_length_le (by rw [List.length_dropLast]; omega)] at ho
    exact ho.toSl (fun _ h => h) (fun _ h => h)
  · refine ⟨.lit (.slice none 0 0), ?_, Ext.refl _ _, ?_⟩
    · exact OwnL.nil
    · simp only [core, Nat.reduceAdd, Nat.reduceSub, Nat.reduceMul, Nat.reduceLT, Nat.reduceEqDiff, reduceCtorEq, Nat.reduceLeDiff, Int.reduceLE, Int.reduceLT, Int.reduceToNat]
      rfl
end Go.Proofs.Ytkgbeihcepociaa.Ex
end

section

set_option linter.unusedSimpArgs false
set_option linter.unusedVariables false
set_option maxRecDepth 10000
namespace Go.Proofs.Ytkgbeihcepociaa.Ex
open Go
def map0 : MapD := ⟨0, [], [], [], 0⟩
/-- Does a run of maps end at a place? -/
def endF (pool seed : Int) (ms : List MapD) (i : Nat) : Bool := !(decide (i + 1 < ms.length) && sameF (ms.getD i map0) (ms.getD (i + 1) map0) pool seed)
def fromN (pool seed : Int) (ms : List MapD) : Nat → Nat
  | 0 => 0
  | i + 1 => if endF pool seed ms i = true then i + 1 else fromN pool seed ms i
def runsN (pool seed : Int) (ms : List MapD) : Nat → List (Nat × Nat)
  | 0 => []
  | i + 1 => if endF pool seed ms i = true then runsN pool seed ms i ++ [(fromN pool seed ms i, i + 1)] else runsN pool seed ms i
def runsF (pool seed : Int) (ms : List MapD) : List (Nat × Nat) := runsN pool seed ms ms.length
def cutF (ms : List MapD) (r : Nat × Nat) : List MapD := (ms.take r.2).drop r.1
theorem fromN_le {pool seed : Int} {ms : List MapD} : ∀ i, fromN pool seed ms i ≤ i
  | 0 => Nat.le_refl 0
  | i + 1 => by
    have := fromN_le (pool := pool) (seed := seed) (ms := ms) i
    unfold fromN
    split <;> omega
theorem runsN_len {pool seed : Int} {ms : List MapD} : ∀ i, (runsN pool seed ms i).length ≤ i
  | 0 => Nat.le_refl 0
  | i + 1 => by
    have := runsN_len (pool := pool) (seed := seed) (ms := ms) i
    unfold runsN
    split
    · rw [List.length_append]; show _ + 1 ≤ _; omega
    · omega
theorem runsN_pre {pool seed : Int} {ms : List MapD} {i : Nat} : ∀ j, i ≤ j → ∃ r, runsN pool seed ms j = runsN pool seed ms i ++ r := fun j hij => by
  induction hij with
  | refl => exact ⟨[], by rw [List.append_nil]⟩
  | step _ ih =>
    obtain ⟨r, hr⟩ := ih
    rename_i j _
    rw [runsN]
    split
    · exact ⟨r ++ [(fromN pool seed ms j, j + 1)], by rw [hr, List.append_assoc]⟩
    · exact ⟨r, hr⟩
/-- The run that is told at a place. -/
theorem runs_at {pool seed : Int} {ms : List MapD} {i : Nat} (hi : i < ms.length) (he : endF pool seed ms i = true) : (runsF pool seed ms)[(runsN pool seed ms i).length]? = some (fromN pool seed ms i, i + 1) := by
  obtain ⟨r, hr⟩ := runsN_pre (pool := pool) (seed := seed) (ms := ms) (i := i + 1) ms.length hi
  unfold runsF
  rw [hr, runsN, if_pos he, List.append_assoc, List.getElem?_append_right (Nat.le_refl _), Nat.sub_self]
  rfl
theorem runsN_succ {pool seed : Int} {ms : List MapD} {i : Nat} (he : endF pool seed ms i = true) : (runsN pool seed ms (i + 1)).length = (runsN pool seed ms i).length + 1 := by
  rw [runsN, if_pos he, List.length_append]; rfl
theorem runsN_stay {pool seed : Int} {ms : List MapD} {i : Nat} (he : endF pool seed ms i = false) : (runsN pool seed ms (i + 1)).length = (runsN pool seed ms i).length := by
  rw [runsN, if_neg (by rw [he]; simp)]
theorem fromN_succ {pool seed : Int} {ms : List MapD} {i : Nat} (he : endF pool seed ms i = true) : fromN pool seed ms (i + 1) = i + 1 := by rw [fromN, if_pos he]
theorem fromN_stay {pool seed : Int} {ms : List MapD} {i : Nat} (he : endF pool seed ms i = false) : fromN pool seed ms (i + 1) = fromN pool seed ms i := by rw [fromN, if_neg (by rw [he]; simp)]
/-- Between a run's beginning and its end no run ends. -/
theorem fromN_run {pool seed : Int} {ms : List MapD} : ∀ i j, fromN pool seed ms i ≤ j → j < i → endF pool seed ms j = false
  | 0, j, _, h => by omega
  | i + 1, j, h1, h2 => by
    unfold fromN at h1
    by_cases he : endF pool seed ms i = true
    · rw [if_pos he] at h1; omega
    · rw [if_neg he] at h1
      by_cases hj : j = i
      · subst hj; simpa using he
      · exact fromN_run i j h1 (by omega)
/-- What a run is. -/
structure Run (pool seed : Int) (ms : List MapD) (r : Nat × Nat) : Prop where
  lt : r.1 < r.2
  le : r.2 ≤ ms.length
  same : ∀ j, r.1 ≤ j → j + 1 < r.2 → endF pool seed ms j = false
  ends : endF pool seed ms (r.2 - 1) = true
theorem runsN_run {pool seed : Int} {ms : List MapD} : ∀ i, i ≤ ms.length → ∀ r ∈ runsN pool seed ms i, Run pool seed ms r
  | 0, _, r, hr => by cases hr
  | i + 1, hi, r, hr => by
    unfold runsN at hr
    split at hr
    · rename_i he
      rw [List.mem_append, List.mem_singleton] at hr
      rcases hr with hr | rfl
      · exact runsN_run i (by omega) r hr
      · have := fromN_le (pool := pool) (seed := seed) (ms := ms) i
        exact ⟨by show _ < i + 1; omega, hi, fun j h1 h2 => fromN_run i j h1 (by have : j + 1 < i + 1 := h2; omega), he⟩
    · exact runsN_run i (by omega) r hr
theorem runsF_run {pool seed : Int} {ms : List MapD} : ∀ r ∈ runsF pool seed ms, Run pool seed ms r := runsN_run _ (Nat.le_refl _)
theorem runsF_len {pool seed : Int} {ms : List MapD} : (runsF pool seed ms).length ≤ ms.length := runsN_len _
theorem endF_last {pool seed : Int} {ms : List MapD} {i : Nat} (h : ms.length = i + 1) : endF pool seed ms i = true := by
  unfold endF
  rw [decide_eq_false (by omega)]
  rfl
theorem same_act {pool seed : Int} {a b : MapD} (h : sameF a b pool seed = true) : actF a pool seed = actF b pool seed ∧ bootF a (actF a pool seed) = bootF b (actF b pool seed) := by
  unfold sameF at h
  rw [Bool.and_eq_true] at h
  exact ⟨eq_of_beq h.1, eq_of_beq h.2⟩
theorem end_same {pool seed : Int} {ms : List MapD} {j : Nat} (h : endF pool seed ms j = false) : sameF (ms.getD j map0) (ms.getD (j + 1) map0) pool seed = true := by
  unfold endF at h
  simp only [Bool.not_eq_false', Bool.and_eq_true] at h
  exact h.2
theorem run_act {pool seed : Int} {ms : List MapD} {r : Nat × Nat} (hr : Run pool seed ms r) : ∀ j, r.1 ≤ j → j < r.2 → actF (ms.getD j map0) pool seed = actF (ms.getD r.1 map0) pool seed ∧ bootF (ms.getD j map0) (actF (ms.getD j map0) pool seed) = bootF (ms.getD r.1 map0) (actF (ms.getD r.1 map0) pool seed) := fun j h1 h2 => by
  induction h1 with
  | refl => exact ⟨rfl, rfl⟩
  | step h1 ih =>
    rename_i j
    have hs := same_act (end_same (hr.same j h1 h2))
    obtain ⟨i1, i2⟩ := ih (by omega)
    exact ⟨hs.1.symm.trans i1, hs.2.symm.trans i2⟩
def wroteE (pool : Int) (l : List MapD) (n : Nat) : Bool := l.any fun m => (poolF m pool).isSome && decide ((poolG m pool).min ≤ n)
def upO (m : MapD) (o : Int) : Int := match m.osds[o.toNat]? with
  | some y => y.upThru
  | none => 0
def wroteF (pool : Int) (l : List MapD) (acts : List Int) : Bool := match acts with
  | [] => false
  | o :: _ => wroteE pool l acts.length && decide ((l.getD 0 map0).epoch ≤ upO (l.getD (l.length - 1) map0) o)
def ivOf (pool seed : Int) (l : List MapD) : IvD :=
  ⟨(l.getD 0 map0).epoch, (l.getD (l.length - 1) map0).epoch, actF (l.getD 0 map0) pool seed, bootF (l.getD 0 map0) (actF (l.getD 0 map0) pool seed), wroteF pool l (actF (l.getD 0 map0) pool seed)⟩
def ivsF (pool seed : Int) (ms : List MapD) : List IvD := (runsF pool seed ms).map fun r => ivOf pool seed (cutF ms r)
def firstF (pool seed : Int) (ms : List MapD) : Int := match (runsF pool seed ms).getLast? with
  | some r => (ms.getD r.1 map0).epoch
  | none => 0
theorem cut_len {ms : List MapD} {r : Nat × Nat} (h : r.2 ≤ ms.length) : (cutF ms r).length = r.2 - r.1 := by
  unfold cutF
  rw [List.length_drop, List.length_take]
  omega
theorem cut_get {ms : List MapD} {r : Nat × Nat} {j : Nat} (h : r.1 + j < r.2) : (cutF ms r)[j]? = ms[r.1 + j]? := by
  unfold cutF
  rw [List.getElem?_drop, List.getElem?_take, if_pos h]
theorem cut_getD {ms : List MapD} {r : Nat × Nat} {j : Nat} (h : r.1 + j < r.2) : (cutF ms r).getD j map0 = ms.getD (r.1 + j) map0 := by
  rw [List.getD_eq_getElem?_getD, List.getD_eq_getElem?_getD, cut_get h]
/-- The maps of a run, by themselves. -/
structure RunL (pool seed : Int) (l : List MapD) : Prop where
  pos : 0 < l.length
  act : ∀ m ∈ l, actF m pool seed = actF (l.getD 0 map0) pool seed
  boot : ∀ m ∈ l, bootF m (actF m pool seed) = bootF (l.getD 0 map0) (actF (l.getD 0 map0) pool seed)
theorem Run.cut {pool seed : Int} {ms : List MapD} {r : Nat × Nat} (hr : Run pool seed ms r) : RunL pool seed (cutF ms r) := by
  have h1 := hr.lt
  have h2 := cut_len (r := r) hr.le
  have h0 : (cutF ms r).getD 0 map0 = ms.getD r.1 map0 := cut_getD (by omega)
  have key : ∀ m ∈ cutF ms r, ∃ j, r.1 ≤ j ∧ j < r.2 ∧ m = ms.getD j map0 := fun m hm => by
    obtain ⟨j, hj, rfl⟩ := List.mem_iff_getElem.1 hm
    refine ⟨r.1 + j, by omega, by omega, ?_⟩
    rw [← cut_getD (r := r) (by omega), List.getD_eq_getElem?_getD, List.getElem?_eq_getElem hj]
    rfl
  refine ⟨by omega, fun m hm => ?_, fun m hm => ?_⟩
  · obtain ⟨j, a, b, rfl⟩ := key m hm
    rw [h0]
    exact (run_act hr j a b).1
  · obtain ⟨j, a, b, rfl⟩ := key m hm
    rw [h0]
    exact (run_act hr j a b).2
theorem ivsF_len {pool seed : Int} {ms : List MapD} : (ivsF pool seed ms).length ≤ ms.length := by
  unfold ivsF
  rw [List.length_map]
  exact runsF_len
end Go.Proofs.Ytkgbeihcepociaa.Ex
end

section

set_option linter.unusedSimpArgs false
set_option linter.unusedVariables false
set_option maxRecDepth 10000
set_option maxHeartbeats 4000000
namespace Go.Proofs.Ytkgbeihcepociaa.Ex
open Go
/-- A round of a range over a function. -/
def WR (P : Program) (T : TT) (S : Sums) (l : Nat) (args : List AV) (h : AH) (Q : AV → AH → Prop) : Prop := W P T S (.round l args) h fun x h2 => ∃ v cm, x = .ended (.ret v) cm ∧ Q v h2
theorem WOp_round {P : Program} {T : TT} {S : Sums} {E : FE} {t : TM} {o : Oper} {k : List AI} {K : KK} {l : Nat} {xs : List AV} {h1 : AH} : WOp P T S E t o k K (some (.round l xs, h1)) = WR P T S l xs h1 (KC P T S E t o.dst k K) := rfl
theorem WR.mono {P : Program} {T : TT} {S : Sums} {l : Nat} {args : List AV} {h : AH} {Q Q' : AV → AH → Prop} (hw : WR P T S l args h Q) (hq : ∀ v h', Q v h' → Q' v h') : WR P T S l args h Q' := W.mono hw fun o h' ⟨v, cm, e, hv⟩ => ⟨v, cm, e, hq v h' hv⟩
theorem call_yield {P : Program} {l : Nat} {args : List AV} : callA P (.fn (.yield l) [] []) args = some (.round l args) := rfl
theorem runs_x {H : AH} {v : AV} (pool seed : Int) (hv : v.one = true) :
    WC Try.prog (tabOf Try.prog NT0) S0 85 [v, pgV pool seed] H fun r h' => h' = (H.push (.cells [v] 33)).push (.cells [.lit (.int .i64 pool), .lit (.int .i64 seed)] 56) ∧ r = .fn (.func 125) [] [.ptr H.n 0, .ptr (H.n + 1) 0] := by
  refine WC_fn Try.func85 rfl rfl ?_
  simp only [core, Nat.reduceAdd, Nat.reduceSub, Nat.reduceMul, Nat.reduceLT, Nat.reduceEqDiff, reduceCtorEq, Nat.reduceLeDiff, Int.reduceLE, Int.reduceLT, Int.reduceToNat, Try.ntmps85, pgV, hv]
theorem run1_x {F : Nat → Prop} {H : AH} {v : AV} {ms : List MapD} (pool seed : Int) (hv : IsSl RMp F H v ms) (hl : Sm 88 ms) (hok : ∀ m ∈ ms, OkMp m) {l bm bp : Nat} (J : Nat → AH → Prop) (R : AH → Prop)
    (hJ : ∀ i h, J i h → Ext H.n H h ∧ h.at bm = some (.cells [v] 33) ∧ h.at bp = some (.cells [.lit (.int .i64 pool), .lit (.int .i64 seed)] 56))
    (hE : ∀ i h h', J i h → Ext h.n h h' → J i h')
    (hr : ∀ i r h, (runsF pool seed ms)[i]? = some r → J i h → WR Try.prog (tabOf Try.prog NT0) S0 l [subSl 5 r.1 r.2 v] h fun x h2 => ∃ b, x = .lit (.bool b) ∧ (b = true → J (i + 1) h2) ∧ (b = false → R h2))
    {h : AH} (h0 : J 0 h) : WC Try.prog (tabOf Try.prog NT0) S0 125 [.fn (.yield l) [] [], .ptr bm 0, .ptr bp 0] h fun _ h2 => J (runsF pool seed ms).length h2 ∨ R h2 := by
  refine WC_fn Try.func125 rfl rfl ?_
  unfold Sm at hl
  have s1 := hv.isSl
  have s2 := hv.lenD
  obtain ⟨E0, M0, P0⟩ := hJ _ _ h0
  have LM0 := ld_at (T := tabOf Try.prog NT0) M0
  have lm0 := at_lt M0
  simp only [core, Nat.reduceAdd, Nat.reduceSub, Nat.reduceMul, Nat.reduceLT, Nat.reduceEqDiff, reduceCtorEq, Nat.reduceLeDiff, Int.reduceLE, Int.reduceLT, Int.reduceToNat, Try.ntmps125, s1, s2, LM0, lm0]
  refine WB_for ms.length (fun i t h => J (runsN pool seed ms i).length h ∧ t.n = 40 ∧ t.get 0 = .fn (.yield l) [] [] ∧ t.get 1 = .ptr bm 0 ∧ t.get 2 = .ptr bp 0 ∧ t.get 4 = .lit (.int .i64 (fromN pool seed ms i)) ∧ t.get 7 = .lit (.int .i64 ms.length) ∧ t.get 8 = .lit (.int .i64 i)) ?_ ?_ _ _ ?_
  · rintro i t h hlt hc ⟨hj, hn, g0, g1, g2, g4, g7, g8⟩ ih
    obtain ⟨E, M, P⟩ := hJ _ _ hj
    have LM := ld_at (T := tabOf Try.prog NT0) M
    have lm := at_lt M
    have LP := ld_at (T := tabOf Try.prog NT0) P
    have lp := at_lt P
    obtain ⟨x, hx⟩ : ∃ x, ms[i]? = some x := ⟨_, List.getElem?_eq_getElem hlt⟩
    have hxm := List.mem_of_getElem? hx
    have hw := wrap_succ hlt (by omega)
    have hfr := fromN_le (pool := pool) (seed := seed) (ms := ms) i
    have hcap : CapOk 5 v := by obtain ⟨L, -, -, hc, -⟩ := hv.out; exact hc
    by_cases hq : i + 1 < ms.length
    · obtain ⟨y, hy⟩ : ∃ y, ms[i + 1]? = some y := ⟨_, List.getElem?_eq_getElem hq⟩
      have hym := List.mem_of_getElem? hy
      obtain ⟨c, hc1, hld, hld0⟩ := hv.atE (T := tabOf Try.prog NT0) E RMp_z hx
      obtain ⟨c', hc1', hld', hld0'⟩ := hv.atE (T := tabOf Try.prog NT0) E RMp_z hy
      obtain ⟨vo, vp, vb, rfl, m1, m2, m3, -⟩ := RMp_is.1 hc1
      obtain ⟨vo', vp', vb', rfl, m1', m2', m3', -⟩ := RMp_is.1 hc1'
      have i1 := m1.isSl
      have i2 := m2.isSl
      have i3 := m3.isSl
      have i1' := m1'.isSl
      have i2' := m2'.isSl
      have i3' := m3'.isSl
      have hq1 : (((i + 1 : Nat) : Int) < (ms.length : Int)) = True := by simp only [eq_iff_iff, iff_true]; omega
      have hq2 : ((i + 1 : Nat) : Int) = (i : Int) + 1 := by omega
      simp only [core, Nat.reduceAdd, Nat.reduceSub, Nat.reduceMul, Nat.reduceLT, Nat.reduceEqDiff, reduceCtorEq, Nat.reduceLeDiff, Int.reduceLE, Int.reduceLT, Int.reduceToNat, s1, s2, hn, g0, g1, g2, g4, g7, g8, hlt, hc, hw, LM, lm, LP, lp]
      rw [WB_regionD [0, 1, 2, 3, 4, 5, 6, 7, 8, 9, 10, 11, 12, 13, 14, 15, 16, 17] 17087798509143212998702956811215506634502382048954304983910547617474768022664046641862272969080832 (by kernel_rfl)]
      repeat ((with_reducible refine WDM_cons ?_; simp only [dw1]; try simp only [dw2, Nat.reduceAdd, Nat.reduceMul, Nat.reduceShiftRight, Nat.reduceMod, Nat.reduceEqDiff]); simp only [core, Nat.reduceAdd, Nat.reduceSub, Nat.reduceMul, Nat.reduceLT, Nat.reduceEqDiff, reduceCtorEq, Nat.reduceLeDiff, Int.reduceLE, Int.reduceLT, Int.reduceToNat, cored, s1, s2, hn, g0, g1, g2, g4, g7, g8, hlt, hc, hw, hq, hq1, LM, lm, LP, lp, hld, hld0, hld', hld0', i1, i2, i3, i1', i2', i3'])
      refine (same_x pool seed (MpAt.ext (MpAt.mk (m := x) m1 m2 m3) E (Nat.le_refl _)) (MpAt.ext (MpAt.mk (m := y) m1' m2' m3') E (Nat.le_refl _)) (hok _ hxm) (hok _ hym)).mono ?_
      rintro _ h' ⟨e', rfl⟩
      have hj' := hE _ _ _ hj e'
      obtain ⟨E', M', P'⟩ := hJ _ _ hj'
      have LM' := ld_at (T := tabOf Try.prog NT0) M'
      have lm' := at_lt M'
      have hen : endF pool seed ms i = !sameF x y pool seed := by
        unfold endF
        rw [decide_eq_true hq, Bool.true_and, List.getD_eq_getElem?_getD, List.getD_eq_getElem?_getD, hx, hy]
        rfl
      cases hsm : sameF x y pool seed with
      | true =>
        rw [hsm] at hen
        have hen : endF pool seed ms i = false := hen
        repeat ((with_reducible refine WDM_cons ?_; simp only [dw1]; try simp only [dw2, Nat.reduceAdd, Nat.reduceMul, Nat.reduceShiftRight, Nat.reduceMod, Nat.reduceEqDiff]); simp only [core, Nat.reduceAdd, Nat.reduceSub, Nat.reduceMul, Nat.reduceLT, Nat.reduceEqDiff, reduceCtorEq, Nat.reduceLeDiff, Int.reduceLE, Int.reduceLT, Int.reduceToNat, cored, s1, s2, hn, g0, g1, g2, g4, g7, g8, hlt, hc, hw, hq, hq1, LM', lm'])
        refine ih _ _ ⟨?_, ?_⟩
        · rw [runsN_stay hen]; exact hj'
        · rw [fromN_stay hen]
          simp only [core, Nat.reduceAdd, Nat.reduceSub, Nat.reduceMul, Nat.reduceLT, Nat.reduceEqDiff, reduceCtorEq, Nat.reduceLeDiff, Int.reduceLE, Int.reduceLT, Int.reduceToNat, hn, g0, g1, g2, g4, g7, g8]
      | false =>
      rw [hsm] at hen
      have he : endF pool seed ms i = true := hen
      have hq3 : fromN pool seed ms i ≤ i + 1 := by omega
      have hq4 : i + 1 ≤ ms.length := by omega
      have hq5 : ((fromN pool seed ms i : Nat) : Int) ≤ ((i + 1 : Nat) : Int) := by omega
      have hq6 : ((i + 1 : Nat) : Int) ≤ (ms.length : Int) := by omega
      repeat ((with_reducible refine WDM_cons ?_; simp only [dw1]; try simp only [dw2, Nat.reduceAdd, Nat.reduceMul, Nat.reduceShiftRight, Nat.reduceMod, Nat.reduceEqDiff]); simp only [core, Nat.reduceAdd, Nat.reduceSub, Nat.reduceMul, Nat.reduceLT, Nat.reduceEqDiff, reduceCtorEq, Nat.reduceLeDiff, Int.reduceLE, Int.reduceLT, Int.reduceToNat, cored, s1, s2, hn, g0, g1, g2, g4, g7, g8, hlt, hc, hw, hq, hq1, LM', lm', hcap, hq3, hq4, hq5, hq6, WOp_round, call_yield])
      refine (hr _ _ _ (runs_at hlt he) hj').mono ?_
      rintro _ h2 ⟨b, rfl, b1, b2⟩
      cases b with
      | true =>
        simp only [core, Nat.reduceAdd, Nat.reduceSub, Nat.reduceMul, Nat.reduceLT, Nat.reduceEqDiff, reduceCtorEq, Nat.reduceLeDiff, Int.reduceLE, Int.reduceLT, Int.reduceToNat, hn, g0, g1, g2, g4, g7, g8, hw]
        refine ih _ _ ⟨?_, ?_⟩
        · rw [runsN_succ he]; exact b1 rfl
        · rw [fromN_succ he]
          simp only [core, Nat.reduceAdd, Nat.reduceSub, Nat.reduceMul, Nat.reduceLT, Nat.reduceEqDiff, reduceCtorEq, Nat.reduceLeDiff, Int.reduceLE, Int.reduceLT, Int.reduceToNat, hn, g0, g1, g2, g4, g7, g8]
      | false =>
        simp only [core, Nat.reduceAdd, Nat.reduceSub, Nat.reduceMul, Nat.reduceLT, Nat.reduceEqDiff, reduceCtorEq, Nat.reduceLeDiff, Int.reduceLE, Int.reduceLT, Int.reduceToNat, hn, g0, g1, g2, g4, g7, g8]
        exact ⟨by simp, .inr (b2 rfl)⟩
    · have hq1 : (((i + 1 : Nat) : Int) < (ms.length : Int)) = False := by simp only [eq_iff_iff, iff_false]; omega
      have he : endF pool seed ms i = true := endF_last (by omega)
      have hq3 : fromN pool seed ms i ≤ i + 1 := by omega
      have hq4 : i + 1 ≤ ms.length := by omega
      have hq5 : ((fromN pool seed ms i : Nat) : Int) ≤ ((i + 1 : Nat) : Int) := by omega
      have hq6 : ((i + 1 : Nat) : Int) ≤ (ms.length : Int) := by omega
      simp only [core, Nat.reduceAdd, Nat.reduceSub, Nat.reduceMul, Nat.reduceLT, Nat.reduceEqDiff, reduceCtorEq, Nat.reduceLeDiff, Int.reduceLE, Int.reduceLT, Int.reduceToNat, s1, s2, hn, g0, g1, g2, g4, g7, g8, hlt, hc, hw, LM, lm, LP, lp]
      rw [WB_regionD [0, 1, 2, 3, 4, 5, 6, 7, 8, 9, 10, 11, 12, 13, 14, 15, 16, 17] 17087798509143212998702956811215506634502382048954304983910547617474768022664046641862272969080832 (by kernel_rfl)]
      repeat ((with_reducible refine WDM_cons ?_; simp only [dw1]; try simp only [dw2, Nat.reduceAdd, Nat.reduceMul, Nat.reduceShiftRight, Nat.reduceMod, Nat.reduceEqDiff]); simp only [core, Nat.reduceAdd, Nat.reduceSub, Nat.reduceMul, Nat.reduceLT, Nat.reduceEqDiff, reduceCtorEq, Nat.reduceLeDiff, Int.reduceLE, Int.reduceLT, Int.reduceToNat, cored, s1, s2, hn, g0, g1, g2, g4, g7, g8, hlt, hc, hw, hq1, LM, lm, LP, lp, hcap, hq3, hq4, hq5, hq6, WOp_round, call_yield])
      refine (hr _ _ _ (runs_at hlt he) hj).mono ?_
      rintro _ h2 ⟨b, rfl, b1, b2⟩
      cases b with
      | true =>
        simp only [core, Nat.reduceAdd, Nat.reduceSub, Nat.reduceMul, Nat.reduceLT, Nat.reduceEqDiff, reduceCtorEq, Nat.reduceLeDiff, Int.reduceLE, Int.reduceLT, Int.reduceToNat, hn, g0, g1, g2, g4, g7, g8, hw]
        refine ih _ _ ⟨?_, ?_⟩
        · rw [runsN_succ he]; exact b1 rfl
        · rw [fromN_succ he]
          simp only [core, Nat.reduceAdd, Nat.reduceSub, Nat.reduceMul, Nat.reduceLT, Nat.reduceEqDiff, reduceCtorEq, Nat.reduceLeDiff, Int.reduceLE, Int.reduceLT, Int.reduceToNat, hn, g0, g1, g2, g4, g7, g8]
      | false =>
        simp only [core, Nat.reduceAdd, Nat.reduceSub, Nat.reduceMul, Nat.reduceLT, Nat.reduceEqDiff, reduceCtorEq, Nat.reduceLeDiff, Int.reduceLE, Int.reduceLT, Int.reduceToNat, hn, g0, g1, g2, g4, g7, g8]
        exact ⟨by simp, .inr (b2 rfl)⟩
  · rintro t h hc ⟨hj, hn, g0, g1, g2, g4, g7, g8⟩
    simp only [core, Nat.reduceAdd, Nat.reduceSub, Nat.reduceMul, Nat.reduceLT, Nat.reduceEqDiff, reduceCtorEq, Nat.reduceLeDiff, Int.reduceLE, Int.reduceLT, Int.reduceToNat, s1, s2, hn, g0, g1, g2, g4, g7, g8, hc]
    exact ⟨by simp, .inl hj⟩
  · simp only [core, Nat.reduceAdd, Nat.reduceSub, Nat.reduceMul, Nat.reduceLT, Nat.reduceEqDiff, reduceCtorEq, Nat.reduceLeDiff, Int.reduceLE, Int.reduceLT, Int.reduceToNat]
    refine ⟨h0, ?_⟩
    (repeat' apply And.intro) <;> first | rfl | trivial
end Go.Proofs.Ytkgbeihcepociaa.Ex
end

section

set_option linter.unusedSimpArgs false
set_option linter.unusedVariables false
set_option maxRecDepth 10000
set_option maxHeartbeats 4000000
namespace Go.Proofs.Ytkgbeihcepociaa.Ex
open Go
theorem wroteE_succ {pool : Int} {l : List MapD} {n i : Nat} {x : MapD} (hx : l[i]? = some x) : wroteE pool (l.take (i + 1)) n = (wroteE pool (l.take i) n || ((poolF x pool).isSome && decide ((poolG x pool).min ≤ n))) := by
  unfold wroteE
  rw [List.take_add_one, hx, List.any_append]
  simp
theorem RunL.last {pool seed : Int} {l : List MapD} (hr : RunL pool seed l) : ∃ y, l[l.length - 1]? = some y ∧ actF y pool seed = actF (l.getD 0 map0) pool seed ∧ bootF y (actF y pool seed) = bootF (l.getD 0 map0) (actF (l.getD 0 map0) pool seed) := by
  have h0 := hr.pos
  refine ⟨l[l.length - 1], List.getElem?_eq_getElem (by omega), hr.act _ (List.getElem_mem _), hr.boot _ (List.getElem_mem _)⟩
/-- The first of what acts is an osd of the run's last map. -/
theorem RunL.head {pool seed : Int} {l : List MapD} (hr : RunL pool seed l) {o : Int} {r : List Int} (ha : actF (l.getD 0 map0) pool seed = o :: r) {y : MapD} (hy : l[l.length - 1]? = some y) : ∃ (k : Nat) (z : OsdD), o = (k : Int) ∧ y.osds[k]? = some z := by
  obtain ⟨y', hy', h1, -⟩ := hr.last
  rw [hy] at hy'
  cases hy'
  refine able_inv (actF_able (pool := pool) (seed := seed) o ?_)
  rw [h1, ha]
  simp
theorem wrote_x {F G : Nat → Prop} {H : AH} {v va : AV} {l : List MapD} (pool seed : Int) (hv : IsSl RMp F H v l) (hl : Sm 88 l) (hok : ∀ m ∈ l, OkMp m) (hr : RunL pool seed l) (ha : IsSl RInt G H va (actF (l.getD 0 map0) pool seed)) :
    WC Try.prog (tabOf Try.prog NT0) S0 86 [v, pgV pool seed, va] H fun r h' => Ext H.n H h' ∧ r = .lit (.bool (wroteF pool l (actF (l.getD 0 map0) pool seed))) := by
  refine WC_fn Try.func86 rfl rfl ?_
  unfold Sm at hl
  have s1 := hv.isSl
  have s2 := hv.lenD
  have a1 := ha.isSl
  have a2 := ha.lenD
  have h0 := hr.pos
  obtain ⟨acts, hacts⟩ : ∃ acts, acts = actF (l.getD 0 map0) pool seed := ⟨_, rfl⟩
  have hal : acts.length ≤ 8 := hacts ▸ actF_len
  rw [← hacts] at ha a2 ⊢
  simp only [core, Nat.reduceAdd, Nat.reduceSub, Nat.reduceMul, Nat.reduceLT, Nat.reduceEqDiff, reduceCtorEq, Nat.reduceLeDiff, Int.reduceLE, Int.reduceLT, Int.reduceToNat, Try.ntmps86, pgV, s1, s2, a1, a2]
  refine ⟨fun he => ?_, fun he => ?_⟩
  · obtain rfl : acts = [] := List.eq_nil_of_length_eq_zero (by have := eq_of_beq he; omega)
    refine ⟨(Ext.refl _ _).push _ (Nat.le_refl _), rfl⟩
  obtain ⟨o, rest, hor⟩ : ∃ o rest, acts = o :: rest := by
    cases acts with
    | nil => simp at he
    | cons o r => exact ⟨o, r, rfl⟩
  obtain ⟨h1, hh1⟩ : ∃ h1, h1 = H.push (.cells [.lit (.int .i64 pool), .lit (.int .i64 seed)] 56) := ⟨_, rfl⟩
  have E1 : Ext H.n H h1 := hh1 ▸ (Ext.refl _ _).push _ (Nat.le_refl _)
  have A1 : h1.at H.n = some (.cells [.lit (.int .i64 pool), .lit (.int .i64 seed)] 56) := hh1 ▸ at_push_n _ _
  rw [← hh1]
  clear hh1
  have la1 := at_lt A1
  refine WB_for l.length (fun i t h => Ext h1.n h1 h ∧ t.n = 63 ∧ t.get 0 = v ∧ t.get 2 = va ∧ t.get 4 = .ptr H.n 0 ∧ t.get 7 = .lit (.bool (wroteE pool (l.take i) acts.length)) ∧ t.get 16 = v ∧ t.get 17 = .lit (.int .i64 l.length) ∧ t.get 18 = .lit (.int .i64 i)) ?_ ?_ _ _ ?_
  · rintro i t h hlt hc ⟨e1, hn, g0, g2, g4, g7, g16, g17, g18⟩ ih
    have E := E1.step e1
    have A := (e1.2 _ la1).trans A1
    have la := at_lt A
    have LA := ld_at (T := tabOf Try.prog NT0) A
    obtain ⟨x, hx⟩ : ∃ x, l[i]? = some x := ⟨_, List.getElem?_eq_getElem hlt⟩
    obtain ⟨c, hc1, hld, hld0⟩ := hv.atE (T := tabOf Try.prog NT0) E RMp_z hx
    obtain ⟨vo, vp, vb, rfl, m1, m2, m3, -⟩ := RMp_is.1 hc1
    have i1 := m1.one
    have i2 := m2.one
    have i3 := m3.one
    have j1 := m1.isSl
    have j2 := m2.isSl
    have j3 := m3.isSl
    have hw := wrap_succ hlt (by omega)
    simp only [core, Nat.reduceAdd, Nat.reduceSub, Nat.reduceMul, Nat.reduceLT, Nat.reduceEqDiff, reduceCtorEq, Nat.reduceLeDiff, Int.reduceLE, Int.reduceLT, Int.reduceToNat, s1, s2, a1, a2, hn, g0, g2, g4, g7, g16, g17, g18, hlt, hc, hld, hld0, hw, i1, i2, i3]
    obtain ⟨h2, hh2⟩ : ∃ h2, h2 = h.push (.cells [.lit (.int .i64 x.epoch), vo, vp, vb, .lit (.int .i64 x.leaf)] 31) := ⟨_, rfl⟩
    have e2 : Ext h.n h h2 := hh2 ▸ (Ext.refl _ _).push _ (Nat.le_refl _)
    have B2 : h2.at h.n = some (.cells [.lit (.int .i64 x.epoch), vo, vp, vb, .lit (.int .i64 x.leaf)] 31) := hh2 ▸ at_push_n _ _
    have lb2 := at_lt B2
    have LB2 := ld_at (T := tabOf Try.prog NT0) B2
    have A2 := (e2.2 _ la).trans A
    have la2 := at_lt A2
    have LA2 := ld_at (T := tabOf Try.prog NT0) A2
    have E2 := E.step e2
    rw [← hh2]
    clear hh2
    simp only [core, Nat.reduceAdd, Nat.reduceSub, Nat.reduceMul, Nat.reduceLT, Nat.reduceEqDiff, reduceCtorEq, Nat.reduceLeDiff, Int.reduceLE, Int.reduceLT, Int.reduceToNat, s1, s2, a1, a2, hn, g0, g2, g4, g7, g16, g17, g18, LB2, lb2, LA2, la2, j1, j2, j3]
    refine (pool_x pool (MpAt.ext (MpAt.mk (m := x) m1 m2 m3) E2 (Nat.le_refl _)) (hok _ (List.mem_of_getElem? hx)).2.1.1).mono ?_
    rintro _ h3 ⟨e3, rfl⟩
    have hsucc := wroteE_succ (pool := pool) (n := acts.length) hx
    obtain ⟨acc, hacc⟩ : ∃ acc, acc = wroteE pool (l.take i) acts.length := ⟨_, rfl⟩
    rw [← hacc] at hsucc g7
    obtain ⟨ok, hok⟩ : ∃ ok, ok = (poolF x pool).isSome := ⟨_, rfl⟩
    rw [← hok] at hsucc ⊢
    obtain ⟨p, hp⟩ : ∃ p, p = poolG x pool := ⟨_, rfl⟩
    rw [← hp] at hsucc ⊢
    simp only [core, Nat.reduceAdd, Nat.reduceSub, Nat.reduceMul, Nat.reduceLT, Nat.reduceEqDiff, reduceCtorEq, Nat.reduceLeDiff, Int.reduceLE, Int.reduceLT, Int.reduceToNat, poolV, hn, g0, g2, g4, g7, g16, g17, g18]
    obtain ⟨h4, hh4⟩ : ∃ h4, h4 = h3.push (.cells [.lit (.int .i64 p.id), .lit (.int .i64 p.size), .lit (.int .i64 p.min), .lit (.int .i64 p.pgs)] 94) := ⟨_, rfl⟩
    have e4 : Ext h3.n h3 h4 := hh4 ▸ (Ext.refl _ _).push _ (Nat.le_refl _)
    have B4 : h4.at h3.n = some (.cells [.lit (.int .i64 p.id), .lit (.int .i64 p.size), .lit (.int .i64 p.min), .lit (.int .i64 p.pgs)] 94) := hh4 ▸ at_push_n _ _
    have lb4 := at_lt B4
    have LB4 := ld_at (T := tabOf Try.prog NT0) B4
    have EE : Ext h1.n h1 h4 := ((e1.step e2).step e3).step e4
    rw [← hh4]
    clear hh4
    by_cases hpm : p.min ≤ (acts.length : Int)
    all_goals cases acc <;> cases ok
    all_goals simp only [core, Nat.reduceAdd, Nat.reduceSub, Nat.reduceMul, Nat.reduceLT, Nat.reduceEqDiff, reduceCtorEq, Nat.reduceLeDiff, Int.reduceLE, Int.reduceLT, Int.reduceToNat, a1, a2, hn, g0, g2, g4, g7, g16, g17, g18, LB4, lb4, hpm, hw, aundef]
    all_goals (refine ih _ _ ⟨EE, ?_⟩; simp only [core, Nat.reduceAdd, Nat.reduceSub, Nat.reduceMul, Nat.reduceLT, Nat.reduceEqDiff, reduceCtorEq, Nat.reduceLeDiff, Int.reduceLE, Int.reduceLT, Int.reduceToNat, hn, g0, g2, g4, g7, g16, g17, g18, hsucc, hpm]; try simp)
  · rintro t h hc ⟨e1, hn, g0, g2, g4, g7, g16, g17, g18⟩
    have E := E1.step e1
    rw [List.take_length] at g7
    obtain ⟨y, hy, hact, hbt⟩ := hr.last
    obtain ⟨k, z, hk, hz⟩ := hr.head (hacts ▸ hor) hy
    obtain ⟨c, hc1, hld, hld0⟩ := hv.atE (T := tabOf Try.prog NT0) E RMp_z hy
    obtain ⟨vo, vp, vb, rfl, m1, m2, m3, -⟩ := RMp_is.1 hc1
    have i1 := m1.one
    have i2 := m2.one
    have i3 := m3.one
    have j1 := m1.isSl
    have k1 := m1.lenD
    have hlt0 : l.length - 1 < l.length := by omega
    have hw0 : IntKind.i64.wrap ((l.length : Int) - 1) = ((l.length - 1 : Nat) : Int) := (wrap_in (by omega) (by omega)).trans (by omega)
    simp only [core, Nat.reduceAdd, Nat.reduceSub, Nat.reduceMul, Nat.reduceLT, Nat.reduceEqDiff, reduceCtorEq, Nat.reduceLeDiff, Int.reduceLE, Int.reduceLT, Int.reduceToNat, s1, s2, a1, a2, hn, g0, g2, g4, g7, g16, g17, g18, hc, hld, hld0, hw0, hlt0, i1, i2, i3]
    obtain ⟨h2, hh2⟩ : ∃ h2, h2 = h.push (.cells [.lit (.int .i64 y.epoch), vo, vp, vb, .lit (.int .i64 y.leaf)] 31) := ⟨_, rfl⟩
    have e2 : Ext h.n h h2 := hh2 ▸ (Ext.refl _ _).push _ (Nat.le_refl _)
    have B2 : h2.at h.n = some (.cells [.lit (.int .i64 y.epoch), vo, vp, vb, .lit (.int .i64 y.leaf)] 31) := hh2 ▸ at_push_n _ _
    have lb2 := at_lt B2
    have LB2 := ld_at (T := tabOf Try.prog NT0) B2
    have E2 := E.step e2
    rw [← hh2]
    clear hh2
    obtain ⟨x, hx⟩ : ∃ x, l[0]? = some x := ⟨_, List.getElem?_eq_getElem h0⟩
    have hx0 : l.getD 0 map0 = x := by rw [List.getD_eq_getElem?_getD, hx]; rfl
    have hyl : l.getD (l.length - 1) map0 = y := by rw [List.getD_eq_getElem?_getD, hy]; rfl
    obtain ⟨c', hc1', hld', hld0'⟩ := hv.atE (T := tabOf Try.prog NT0) E2 RMp_z hx
    obtain ⟨vo', vp', vb', rfl, -⟩ := RMp_is.1 hc1'
    obtain ⟨c2, hc2, hldz, hldz0⟩ := m1.atE (T := tabOf Try.prog NT0) E2 ROsd_z hz
    obtain ⟨rfl, -⟩ := ROsd_is.1 hc2
    have hkz : k < y.osds.length := (List.getElem?_eq_some_iff.1 hz).1
    have hga : acts.getD 0 0 = (k : Int) := by rw [hor, ← hk]; rfl
    have hp0 : 0 < acts.length := by rw [hor]; simp
    have hldo := (ha.ext E2 (Nat.le_refl _)).int (T := tabOf Try.prog NT0) (e := 3) (by kernel_rfl) (by kernel_rfl) hp0
    rw [hga] at hldo
    simp only [Nat.zero_mul, Nat.add_zero] at hldo
    have hld0' := fun e n a b c => (hld0' e n a b c)
    simp only [Nat.zero_mul, Nat.add_zero] at hld0'
    have hld' := fun e n j a b c => (hld' e n j a b c)
    simp only [Nat.zero_mul, Nat.add_zero] at hld'
    have hwf : wroteF pool l acts = (wroteE pool l acts.length && decide (x.epoch ≤ z.upThru)) := by
      unfold wroteF upO
      rw [hx0, hyl, hor, hk]
      simp only [Int.toNat_natCast, hz]
    rw [hwf]
    obtain ⟨acc, hacc⟩ : ∃ acc, acc = wroteE pool l acts.length := ⟨_, rfl⟩
    rw [← hacc] at g7 ⊢
    cases acc with
    | false =>
      rw [WB_regionD [0, 1, 2, 3, 4, 5, 6, 7, 8, 9, 10, 11, 12, 13, 14, 15, 16] 497317544946356993002954014012259017888569441044179401346561585654770178336654123728896 (by kernel_rfl)]
      repeat ((with_reducible refine WDM_cons ?_; simp only [dw1]; try simp only [dw2, Nat.reduceAdd, Nat.reduceMul, Nat.reduceShiftRight, Nat.reduceMod, Nat.reduceEqDiff]); simp only [core, Nat.reduceAdd, Nat.reduceSub, Nat.reduceMul, Nat.reduceLT, Nat.reduceEqDiff, reduceCtorEq, Nat.reduceLeDiff, Int.reduceLE, Int.reduceLT, Int.reduceToNat, cored, s1, s2, a1, a2, hn, g0, g2, g4, g7, g16, g17, g18, LB2, lb2, j1, k1, aundef])
      exact E2
    | true =>
      rw [WB_regionD [0, 1, 2, 3, 4, 5, 6, 7, 8, 9, 10, 11, 12, 13, 14, 15, 16] 497317544946356993002954014012259017888569441044179401346561585654770178336654123728896 (by kernel_rfl)]
      repeat ((with_reducible refine WDM_cons ?_; simp only [dw1]; try simp only [dw2, Nat.reduceAdd, Nat.reduceMul, Nat.reduceShiftRight, Nat.reduceMod, Nat.reduceEqDiff]); simp only [core, Nat.reduceAdd, Nat.reduceSub, Nat.reduceMul, Nat.reduceLT, Nat.reduceEqDiff, reduceCtorEq, Nat.reduceLeDiff, Int.reduceLE, Int.reduceLT, Int.reduceToNat, cored, s1, s2, a1, a2, hn, g0, g2, g4, g7, g16, g17, g18, LB2, lb2, j1, k1, hldo, hp0, hldz, hkz, hld', hld0', h0, aundef])
      exact E2
  · simp only [core, Nat.reduceAdd, Nat.reduceSub, Nat.reduceMul, Nat.reduceLT, Nat.reduceEqDiff, reduceCtorEq, Nat.reduceLeDiff, Int.reduceLE, Int.reduceLT, Int.reduceToNat]
    refine ⟨Ext.refl _ _, ?_⟩
    (repeat' apply And.intro) <;> first | rfl | trivial
end Go.Proofs.Ytkgbeihcepociaa.Ex
end
