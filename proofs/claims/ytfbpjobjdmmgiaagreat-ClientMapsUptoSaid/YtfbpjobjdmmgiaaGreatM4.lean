/- Part 4 of the proof: Cd1, Str, Bkt, Bk2, Gd1, Pl1, Cd2, Cd3, Cd4, Cd5, Con, Cd6, Om1, Om2, Om3, Om4, Par, May, Mpc, Chk, Ck2, Abs, Open, Opa, Opb, Psm, Om5, Om6, Om7, Om8, Om9, Oms. -/
import Derived.Test.YtfbpjobjdmmgiaaGreatRows
import Derived.ProofKit
import Derived.OpenShut
import Derived.ShutString
import Derived.ChangeOld
import Derived.SizedLaws
import Derived.Test.YtfbpjobjdmmgiaaGreatM3
open Nat renaming reduceAdd → zrA, reduceSub → zrS, reduceMul → zrM, reduceLT → zrL, reduceEqDiff → zrE, reduceLeDiff → zrD, reduceShiftRight → zrR, reduceMod → zrO
open Int renaming reduceLE → ziE, reduceLT → ziL, reduceToNat → ziN
section

set_option linter.unusedSimpArgs false
set_option linter.unusedVariables false
set_option maxRecDepth 10000
set_option maxHeartbeats 4000000
namespace Go.Proofs.YtfbpjobjdmmgiaaGreat.Ex
open Go
def byteN (q : IntKind) (n : Int) (i : Nat) : UInt8 := UInt8.ofNat (IntKind.u8.wrap (shrI q n ((8 * i : Nat) : Int))).toNat
def encN (q : IntKind) (n : Int) (k : Nat) : List UInt8 := (List.range k).map (byteN q n)
theorem encN_succ (q : IntKind) (n : Int) (k : Nat) : encN q n (k + 1) = encN q n k ++ [byteN q n k] := by unfold encN; rw [List.range_succ, List.map_append]; rfl
theorem encN_len (q : IntKind) (n : Int) (k : Nat) : (encN q n k).length = k := by unfold encN; simp
/-- Bytes that grow. -/
abbrev OwnB (n0 : Nat) (h : AH) (v : AV) (xs : List UInt8) : Prop := OwnL RByte (fun _ => False) n0 h v 5 xs
theorem wrap_u8b (n : Int) : ((UInt8.ofNat (IntKind.u8.wrap n).toNat).toNat : Int) = IntKind.u8.wrap n := by
  rw [IntKind.wrap_u8]
  have h : 0 ≤ n % 256 ∧ n % 256 < 256 := by omega
  rw [UInt8.toNat_ofNat']
  omega
/-- What stands beside a row that grows is as it was. -/
def Fr (h : AH) (v : AV) (h' : AH) (v' : AV) : Prop := h.n ≤ h'.n ∧ ∀ b, b < h.n → Apart v b → h'.at b = h.at b ∧ Apart v' b
theorem Fr.refl {h : AH} {v : AV} : Fr h v h v := ⟨Nat.le_refl _, fun b _ ha => ⟨rfl, ha⟩⟩
theorem Fr.trans {h h1 h2 : AH} {v v1 v2 : AV} (a : Fr h v h1 v1) (b : Fr h1 v1 h2 v2) : Fr h v h2 v2 :=
  ⟨Nat.le_trans a.1 b.1, fun k hk ha => let ⟨x, y⟩ := a.2 k hk ha; let ⟨z, u⟩ := b.2 k (Nat.lt_of_lt_of_le hk a.1) y; ⟨z.trans x, u⟩⟩
theorem Fr.ext {h h1 : AH} {v : AV} (e : Ext h.n h h1) : Fr h v h1 v := ⟨e.1, fun b hb ha => ⟨e.2 b hb, ha⟩⟩
theorem Fr.box {h h1 : AH} {v v1 : AV} {b : Nat} {x : AB} (f : Fr h v h1 v1) (hx : h.at b = some x) (ha : Apart v b) : h1.at b = some x ∧ Apart v1 b :=
  let ⟨p, q⟩ := f.2 b (at_lt hx) ha; ⟨p.trans hx, q⟩
theorem OwnB.apart {n0 : Nat} {h : AH} {v : AV} {xs : List UInt8} (ho : OwnB n0 h v xs) {b : Nat} (hb : b < n0 ∨ h.n ≤ b) : Apart v b := by
  intro off len cap hv
  obtain ⟨L, h2, -⟩ := ho
  rcases h2.2 with ⟨rfl, -⟩ | ⟨p, rfl, hp, hat⟩
  · cases hv
  · cases hv
    have := at_lt hat
    omega
theorem Fr.toExt {n0 : Nat} {h h1 : AH} {v v1 : AV} {xs : List UInt8} (f : Fr h v h1 v1) (ho : OwnB n0 h v xs) (hn0 : n0 ≤ h.n) : Ext n0 h h1 := ⟨f.1, fun b hb => (f.2 b (by omega) (ho.apart (.inl hb))).1⟩
theorem int2_x {H : AH} {v : AV} {xs : List UInt8} {n0 : Nat} (n : Int) (ho : OwnB n0 H v xs) (hn0 : n0 ≤ H.n) (hl : xs.length + 8 ≤ 140737488355328) :
    WC Tryz.prog (tabOf Tryz.prog NT0) S0 34 [v, .lit (.int .i64 n)] H fun r h' => Fr H v h' r ∧ OwnB n0 h' r (xs ++ encN .i64 n 8) := by
  refine WC_fn Tryz.func34 rfl rfl ?_
  simp only [core, zrA, zrS, zrM, zrL, zrE, reduceCtorEq, zrD, ziE, ziL, ziN, Tryz.ntmps34]
  refine WB_for 8 (fun i t h => (∃ s, OwnB n0 h s (xs ++ encN .i64 n i) ∧ Fr H v h s ∧ t.get 0 = s) ∧ t.n = 19 ∧ t.get 1 = .lit (.int .i64 n) ∧ t.get 6 = .lit (.int .i64 i)) ?_ ?_ _ _ ?_
  · rintro i t h hlt hc ⟨⟨s, ho, fr, g0⟩, hn, g1, g6⟩ ih
    have hc : ((i : Int) < 8) = True := by simp only [eq_iff_iff, iff_true]; omega
    have hws := wrap_succ hlt (by omega)
    have hw8 : IntKind.i64.wrap (8 * (i : Int)) = ((8 * i : Nat) : Int) := (wrap_in (by omega) (by omega)).trans (by omega)
    have s1 := (ho.toSl (F := fun _ => True) (fun _ h => h.elim) (fun _ _ => trivial)).isSl
    have h8 : ((8 * i : Nat) : Int) < 0 ∨ (0 : Int) ≤ ((8 * i : Nat) : Int) := .inr (by omega)
    have h80 : ((0 : Int) ≤ ((8 * i : Nat) : Int)) = True := by simp only [eq_iff_iff, iff_true]; omega
    simp only [core, zrA, zrS, zrM, zrL, zrE, reduceCtorEq, zrD, ziE, ziL, ziN, hn, g1, g6, g0, hc, hw8, h80, s1]
    obtain ⟨h2, hh2⟩ : ∃ h2, h2 = h.push (.cells [.lit (.int .u8 (IntKind.u8.wrap (shrI .i64 n ((8 * i : Nat) : Int))))] 5) := ⟨_, rfl⟩
    have e2 : Ext h.n h h2 := hh2 ▸ (Ext.refl _ _).push _ (Nat.le_refl _)
    have A2 : h2.at h.n = some (.cells [.lit (.int .u8 (IntKind.u8.wrap (shrI .i64 n ((8 * i : Nat) : Int))))] 5) := hh2 ▸ at_push_n _ _
    rw [← hh2]
    clear hh2
    have hn2 := e2.1
    have hnh := fr.1
    have hlen : (xs ++ encN .i64 n i).length = xs.length + i := by rw [List.length_append, encN_len]
    refine WOp_app ((ho.ext e2 (Nat.le_refl _)).snoc (by kernel_rfl) (by kernel_rfl) (by kernel_rfl) (zv := .lit (.int .u8 0)) (by kernel_rfl) (by' := 1) (by kernel_rfl) rfl (by decide) (by decide) A2 (y := byteN .i64 n i) (by show [AV.lit (Value.int .u8 _)] = [AV.lit (Value.int .u8 ((byteN .i64 n i).toNat : Int))]; unfold byteN; rw [wrap_u8b]) (by omega) (by omega) (by omega)) ?_
    rintro s4 h4 ⟨ho4, e4, f4⟩
    have v4 := (ho4.toSl (F := fun _ => True) (fun _ h => h.elim) (fun _ _ => trivial)).isSl
    simp only [core, zrA, zrS, zrM, zrL, zrE, reduceCtorEq, zrD, ziE, ziL, ziN, hn, g1, g6, g0, hws, v4]
    refine ih _ _ ⟨⟨s4, by rw [encN_succ, ← List.append_assoc]; exact ho4, fr.trans ((Fr.ext e2).trans ⟨e4.1, f4⟩), by simp only [core, zrA, zrS, zrM, zrL, zrE, reduceCtorEq, zrD, ziE, ziL, ziN, hn, g1, g6]⟩, ?_⟩
    simp only [core, zrA, zrS, zrM, zrL, zrE, reduceCtorEq, zrD, ziE, ziL, ziN, hn, g1, g6]
  · rintro t h hc ⟨⟨s, ho, fr, g0⟩, hn, g1, g6⟩
    have hc : ((8 : Int) < 8) = False := by decide
    have hc' : (((8 : Nat) : Int) < 8) = False := by decide
    simp only [core, zrA, zrS, zrM, zrL, zrE, reduceCtorEq, zrD, ziE, ziL, ziN, hn, g1, g6, g0, hc, hc']
    exact ⟨fr, ho⟩
  · refine ⟨⟨v, by rw [show encN .i64 n 0 = [] from rfl, List.append_nil]; exact ho, Fr.refl, by simp only [core, zrA, zrS, zrM, zrL, zrE, reduceCtorEq, zrD, ziE, ziL, ziN]⟩, ?_⟩
    simp only [core, zrA, zrS, zrM, zrL, zrE, reduceCtorEq, zrD, ziE, ziL, ziN]
    rfl
theorem word2_x {H : AH} {v : AV} {xs : List UInt8} {n0 : Nat} (n : Int) (ho : OwnB n0 H v xs) (hn0 : n0 ≤ H.n) (hl : xs.length + 4 ≤ 140737488355328) :
    WC Tryz.prog (tabOf Tryz.prog NT0) S0 53 [v, .lit (.int .u32 n)] H fun r h' => Fr H v h' r ∧ OwnB n0 h' r (xs ++ encN .u32 n 4) := by
  refine WC_fn Tryz.func53 rfl rfl ?_
  simp only [core, zrA, zrS, zrM, zrL, zrE, reduceCtorEq, zrD, ziE, ziL, ziN, Tryz.ntmps53]
  refine WB_for 4 (fun i t h => (∃ s, OwnB n0 h s (xs ++ encN .u32 n i) ∧ Fr H v h s ∧ t.get 0 = s) ∧ t.n = 19 ∧ t.get 1 = .lit (.int .u32 n) ∧ t.get 6 = .lit (.int .i64 i)) ?_ ?_ _ _ ?_
  · rintro i t h hlt hc ⟨⟨s, ho, fr, g0⟩, hn, g1, g6⟩ ih
    have hc : ((i : Int) < 4) = True := by simp only [eq_iff_iff, iff_true]; omega
    have hws := wrap_succ hlt (by omega)
    have hw8 : IntKind.i64.wrap (8 * (i : Int)) = ((8 * i : Nat) : Int) := (wrap_in (by omega) (by omega)).trans (by omega)
    have s1 := (ho.toSl (F := fun _ => True) (fun _ h => h.elim) (fun _ _ => trivial)).isSl
    have h8 : ((8 * i : Nat) : Int) < 0 ∨ (0 : Int) ≤ ((8 * i : Nat) : Int) := .inr (by omega)
    have h80 : ((0 : Int) ≤ ((8 * i : Nat) : Int)) = True := by simp only [eq_iff_iff, iff_true]; omega
    simp only [core, zrA, zrS, zrM, zrL, zrE, reduceCtorEq, zrD, ziE, ziL, ziN, hn, g1, g6, g0, hc, hw8, h80, s1]
    obtain ⟨h2, hh2⟩ : ∃ h2, h2 = h.push (.cells [.lit (.int .u8 (IntKind.u8.wrap (shrI .u32 n ((8 * i : Nat) : Int))))] 5) := ⟨_, rfl⟩
    have e2 : Ext h.n h h2 := hh2 ▸ (Ext.refl _ _).push _ (Nat.le_refl _)
    have A2 : h2.at h.n = some (.cells [.lit (.int .u8 (IntKind.u8.wrap (shrI .u32 n ((8 * i : Nat) : Int))))] 5) := hh2 ▸ at_push_n _ _
    rw [← hh2]
    clear hh2
    have hn2 := e2.1
    have hnh := fr.1
    have hlen : (xs ++ encN .u32 n i).length = xs.length + i := by rw [List.length_append, encN_len]
    refine WOp_app ((ho.ext e2 (Nat.le_refl _)).snoc (by kernel_rfl) (by kernel_rfl) (by kernel_rfl) (zv := .lit (.int .u8 0)) (by kernel_rfl) (by' := 1) (by kernel_rfl) rfl (by decide) (by decide) A2 (y := byteN .u32 n i) (by show [AV.lit (Value.int .u8 _)] = [AV.lit (Value.int .u8 ((byteN .u32 n i).toNat : Int))]; unfold byteN; rw [wrap_u8b]) (by omega) (by omega) (by omega)) ?_
    rintro s4 h4 ⟨ho4, e4, f4⟩
    have v4 := (ho4.toSl (F := fun _ => True) (fun _ h => h.elim) (fun _ _ => trivial)).isSl
    simp only [core, zrA, zrS, zrM, zrL, zrE, reduceCtorEq, zrD, ziE, ziL, ziN, hn, g1, g6, g0, hws, v4]
    refine ih _ _ ⟨⟨s4, by rw [encN_succ, ← List.append_assoc]; exact ho4, fr.trans ((Fr.ext e2).trans ⟨e4.1, f4⟩), by simp only [core, zrA, zrS, zrM, zrL, zrE, reduceCtorEq, zrD, ziE, ziL, ziN, hn, g1, g6]⟩, ?_⟩
    simp only [core, zrA, zrS, zrM, zrL, zrE, reduceCtorEq, zrD, ziE, ziL, ziN, hn, g1, g6]
  · rintro t h hc ⟨⟨s, ho, fr, g0⟩, hn, g1, g6⟩
    have hc : ((4 : Int) < 4) = False := by decide
    have hc' : (((4 : Nat) : Int) < 4) = False := by decide
    simp only [core, zrA, zrS, zrM, zrL, zrE, reduceCtorEq, zrD, ziE, ziL, ziN, hn, g1, g6, g0, hc, hc']
    exact ⟨fr, ho⟩
  · refine ⟨⟨v, by rw [show encN .u32 n 0 = [] from rfl, List.append_nil]; exact ho, Fr.refl, by simp only [core, zrA, zrS, zrM, zrL, zrE, reduceCtorEq, zrD, ziE, ziL, ziN]⟩, ?_⟩
    simp only [core, zrA, zrS, zrM, zrL, zrE, reduceCtorEq, zrD, ziE, ziL, ziN]
    rfl
theorem count2_x {H : AH} {v : AV} {xs : List UInt8} {n0 : Nat} (n : Int) (ho : OwnB n0 H v xs) (hn0 : n0 ≤ H.n) (hl : xs.length + 4 ≤ 140737488355328) :
    WC Tryz.prog (tabOf Tryz.prog NT0) S0 35 [v, .lit (.int .i64 n)] H fun r h' => Fr H v h' r ∧ OwnB n0 h' r (xs ++ encN .u32 (IntKind.u32.wrap n) 4) := by
  refine WC_fn Tryz.func35 rfl rfl ?_
  simp only [core, zrA, zrS, zrM, zrL, zrE, reduceCtorEq, zrD, ziE, ziL, ziN, Tryz.ntmps35]
  refine (word2_x (IntKind.u32.wrap n) ho hn0 hl).mono ?_
  rintro r h ⟨e, hr⟩
  simp only [core, zrA, zrS, zrM, zrL, zrE, reduceCtorEq, zrD, ziE, ziL, ziN]
  exact ⟨e, hr⟩
def encB (b : Bool) : List UInt8 := [if b then 1 else 0]
theorem bool2_x {H : AH} {v : AV} {xs : List UInt8} {n0 : Nat} (b : Bool) (ho : OwnB n0 H v xs) (hn0 : n0 ≤ H.n) (hl : xs.length + 1 ≤ 140737488355328) :
    WC Tryz.prog (tabOf Tryz.prog NT0) S0 54 [v, .lit (.bool b)] H fun r h' => Fr H v h' r ∧ OwnB n0 h' r (xs ++ encB b) := by
  refine WC_fn Tryz.func54 rfl rfl ?_
  have s1 := (ho.toSl (F := fun _ => True) (fun _ h => h.elim) (fun _ _ => trivial)).isSl
  cases b with
  | true =>
    simp only [core, zrA, zrS, zrM, zrL, zrE, reduceCtorEq, zrD, ziE, ziL, ziN, Tryz.ntmps54, s1]
    obtain ⟨h2, hh2⟩ : ∃ h2, h2 = H.push (.cells [.lit (.int .u8 1)] 5) := ⟨_, rfl⟩
    have e2 : Ext H.n H h2 := hh2 ▸ (Ext.refl _ _).push _ (Nat.le_refl _)
    have A2 : h2.at H.n = some (.cells [.lit (.int .u8 1)] 5) := hh2 ▸ at_push_n _ _
    rw [← hh2]
    clear hh2
    have hn2 := e2.1
    refine WOp_app ((ho.ext e2 (Nat.le_refl _)).snoc (by kernel_rfl) (by kernel_rfl) (by kernel_rfl) (zv := .lit (.int .u8 0)) (by kernel_rfl) (by' := 1) (by kernel_rfl) rfl (by decide) (by decide) A2 (y := 1) rfl (by omega) (by omega) (by omega)) ?_
    rintro s4 h4 ⟨ho4, e4, f4⟩
    have v4 := (ho4.toSl (F := fun _ => True) (fun _ h => h.elim) (fun _ _ => trivial)).isSl
    simp only [core, zrA, zrS, zrM, zrL, zrE, reduceCtorEq, zrD, ziE, ziL, ziN, v4]
    exact ⟨(Fr.ext e2).trans ⟨e4.1, f4⟩, ho4⟩
  | false =>
    simp only [core, zrA, zrS, zrM, zrL, zrE, reduceCtorEq, zrD, ziE, ziL, ziN, Tryz.ntmps54, s1]
    obtain ⟨h2, hh2⟩ : ∃ h2, h2 = H.push (.cells [.lit (.int .u8 0)] 5) := ⟨_, rfl⟩
    have e2 : Ext H.n H h2 := hh2 ▸ (Ext.refl _ _).push _ (Nat.le_refl _)
    have A2 : h2.at H.n = some (.cells [.lit (.int .u8 0)] 5) := hh2 ▸ at_push_n _ _
    rw [← hh2]
    clear hh2
    have hn2 := e2.1
    refine WOp_app ((ho.ext e2 (Nat.le_refl _)).snoc (by kernel_rfl) (by kernel_rfl) (by kernel_rfl) (zv := .lit (.int .u8 0)) (by kernel_rfl) (by' := 1) (by kernel_rfl) rfl (by decide) (by decide) A2 (y := 0) rfl (by omega) (by omega) (by omega)) ?_
    rintro s4 h4 ⟨ho4, e4, f4⟩
    have v4 := (ho4.toSl (F := fun _ => True) (fun _ h => h.elim) (fun _ _ => trivial)).isSl
    simp only [core, zrA, zrS, zrM, zrL, zrE, reduceCtorEq, zrD, ziE, ziL, ziN, v4]
    exact ⟨(Fr.ext e2).trans ⟨e4.1, f4⟩, ho4⟩
end Go.Proofs.YtfbpjobjdmmgiaaGreat.Ex
end

section

set_option linter.unusedSimpArgs false
set_option linter.unusedVariables false
set_option maxRecDepth 10000
set_option maxHeartbeats 4000000
namespace Go.Proofs.YtfbpjobjdmmgiaaGreat.Ex
open Go
/-- A value in a block of its own. -/
def Bk (h : AH) (p : Nat) (v : AV) (e : TypeId) : Prop := h.at p = some (.cells [v] e)
theorem Bk.new {h : AH} {v : AV} {e p : Nat} (hp : p = h.n) : Bk (h.push (.cells [v] e)) p v e := by subst hp; exact at_push_n h _
theorem Bk.old {h : AH} {v : AV} {e p : Nat} {x : AB} (hb : Bk h p v e) : Bk (h.push x) p v e := (at_push_lt _ (at_lt hb)).trans hb
theorem Bk.ext {h h' : AH} {v : AV} {e p : Nat} (hb : Bk h p v e) (he : Ext h.n h h') : Bk h' p v e := (he.2 p (at_lt hb)).trans hb
theorem Bk.lt {h : AH} {v : AV} {e p : Nat} (hb : Bk h p v e) : p < h.n := at_lt hb
end Go.Proofs.YtfbpjobjdmmgiaaGreat.Ex
end

section

set_option linter.unusedSimpArgs false
set_option linter.unusedVariables false
set_option maxRecDepth 10000
set_option maxHeartbeats 4000000
namespace Go.Proofs.YtfbpjobjdmmgiaaGreat.Ex
open Go
/-- A map's value. -/
def mpV (m : MapD) (vo vp vb : AV) : AV := .agg [.lit (.int .i64 m.epoch), vo, vp, vb, .lit (.int .i64 m.leaf)]
/-- What a map's value reads. -/
structure MpAt (F : Nat → Prop) (h : AH) (m : MapD) (vo vp vb : AV) : Prop where
  o : IsSl ROsd F h vo m.osds
  p : IsSl RPool F h vp m.pools
  b : IsSl RBkt F h vb m.buckets
theorem MpAt.ext {F : Nat → Prop} {h h' : AH} {m : MapD} {vo vp vb : AV} {n0 : Nat} (hm : MpAt F h m vo vp vb) (he : Ext n0 h h') (hn : h.n ≤ n0) : MpAt F h' m vo vp vb := ⟨hm.o.ext he hn, hm.p.ext he hn, hm.b.ext he hn⟩
def bktV (b : BktD) (va vw : AV) : AV := .agg [.lit (.int .i64 b.id), .lit (.int .i64 b.kind), va, vw]
def bkt0 : BktD := ⟨0, 0, [], []⟩
def bucketF (m : MapD) (id : Int) : Option BktD := m.buckets.find? (fun b => b.id == id)
def bucketG (m : MapD) (id : Int) : BktD := (bucketF m id).getD bkt0
theorem find_drop {α : Type} {p : α → Bool} {l : List α} {i : Nat} {x : α} (hx : l[i]? = some x) : (l.drop i).find? p = if p x then some x else (l.drop (i + 1)).find? p := by
  have hlt := (List.getElem?_eq_some_iff.1 hx).1
  rw [List.drop_eq_getElem_cons hlt, List.find?_cons]
  have : l[i] = x := by rw [List.getElem?_eq_getElem hlt] at hx; exact Option.some.inj hx
  rw [this]
  cases p x <;> rfl
theorem bucketR_x {F : Nat → Prop} {H : AH} {m : MapD} {vo vp vb : AV} (id : Int) (hm : MpAt F H m vo vp vb) (hl : Sm 64 m.buckets) :
    WC Tryz.prog (tabOf Tryz.prog NT0) S0 59 [mpV m vo vp vb, .lit (.int .i64 id)] H fun r h' => Ext H.n H h' ∧ ∃ va vw, r = .tup [bktV (bucketG m id) va vw, .lit (.bool (bucketF m id).isSome)] ∧ IsSl RInt F h' va (bucketG m id).items ∧ IsSl RInt F h' vw (bucketG m id).weights := by
  refine WC_fn Tryz.func59 rfl rfl ?_
  unfold Sm at hl
  have s1 := hm.b.isSl
  have s2 := hm.b.lenD
  have o1 := hm.o.one
  have o2 := hm.p.one
  have o3 := hm.b.one
  simp only [core, zrA, zrS, zrM, zrL, zrE, reduceCtorEq, zrD, ziE, ziL, ziN, Tryz.ntmps59, mpV, s1, s2, o1, o2, o3]
  obtain ⟨h2, hh2⟩ : ∃ h2, h2 = (H.push (.cells [.lit (.int .i64 m.epoch), vo, vp, vb, .lit (.int .i64 m.leaf)] 69)).push (.cells [.lit (.int .i64 0), .lit (.int .i64 0), .lit (.slice none 0 0), .lit (.slice none 0 0)] 109) := ⟨_, rfl⟩
  have E0 : Ext H.n H h2 := hh2 ▸ ((Ext.refl _ _).push _ (Nat.le_refl _)).push _ (by rw [n_push]; omega)
  have A0 : h2.at (H.n + 1) = some (.cells [.lit (.int .i64 0), .lit (.int .i64 0), .lit (.slice none 0 0), .lit (.slice none 0 0)] 109) := hh2 ▸ at_push_n _ _
  have n2 : h2.n = H.n + 2 := by rw [hh2, n_push, n_push]
  rw [← hh2]
  clear hh2
  refine WB_for m.buckets.length (fun i t h => Ext h2.n h2 h ∧ bucketF m id = (m.buckets.drop i).find? (fun b => b.id == id) ∧ t.n = 22 ∧ t.get 1 = .lit (.int .i64 id) ∧ t.get 4 = .ptr (H.n + 1) 0 ∧ t.get 9 = vb ∧ t.get 10 = .lit (.int .i64 m.buckets.length) ∧ t.get 11 = .lit (.int .i64 i)) ?_ ?_ _ _ ?_
  · rintro i t h hlt hc ⟨he, hf, hn, g1, g4, g9, g10, g11⟩ ih
    obtain ⟨x, hx⟩ : ∃ x, m.buckets[i]? = some x := ⟨_, List.getElem?_eq_getElem hlt⟩
    have E1 : Ext H.n H h := E0.trans (he.mono (by omega))
    obtain ⟨c, hc1, hld, hld0⟩ := hm.b.atE (T := tabOf Tryz.prog NT0) E1 RBkt_z hx
    obtain ⟨va, vw, rfl, ha, hw, i1, i2⟩ := RBkt_is.1 hc1
    have a1 := ha.one
    have w1 := hw.one
    have hws := wrap_succ hlt (by omega)
    rw [find_drop hx] at hf
    have A1 : h.at (H.n + 1) = some (.cells [.lit (.int .i64 0), .lit (.int .i64 0), .lit (.slice none 0 0), .lit (.slice none 0 0)] 109) := (he.2 _ (by omega)).trans A0
    have l1 : H.n + 1 < h.n := at_lt A1
    simp only [core, zrA, zrS, zrM, zrL, zrE, reduceCtorEq, zrD, ziE, ziL, ziN, s1, s2, hn, g1, g4, g9, g10, g11, hlt, hc, hld, hld0, hws, a1, w1]
    refine ⟨fun hq => ?_, fun hq => ?_⟩
    · rw [if_pos hq] at hf
      have hG : bucketG m id = x := by unfold bucketG; rw [hf]; rfl
      simp only [core, zrA, zrS, zrM, zrL, zrE, reduceCtorEq, zrD, ziE, ziL, ziN, hn, g1, g4, g9, g10, g11, a1, w1, A1, l1]
      have EF : Ext H.n H ((h.put (H.n + 1) (.cells [.lit (.int .i64 x.id), .lit (.int .i64 x.kind), va, vw] 109)).push (.cells [.lit (.int .i64 x.id), .lit (.int .i64 x.kind), va, vw] 109)) := (E1.put _ (by omega)).push _ (by rw [n_put]; omega)
      rw [hG, hf]
      exact ⟨EF, va, vw, rfl, ha.ext EF (Nat.le_refl _), hw.ext EF (Nat.le_refl _)⟩
    · rw [if_neg (by rw [hq]; decide)] at hf
      refine ih _ _ ⟨he.push _ he.1, hf, ?_⟩
      simp only [core, zrA, zrS, zrM, zrL, zrE, reduceCtorEq, zrD, ziE, ziL, ziN, hn, g1, g4, g9, g10, g11]
  · rintro t h hc ⟨he, hf, hn, g1, g4, g9, g10, g11⟩
    have A1 : h.at (H.n + 1) = some (.cells [.lit (.int .i64 0), .lit (.int .i64 0), .lit (.slice none 0 0), .lit (.slice none 0 0)] 109) := (he.2 _ (by omega)).trans A0
    have l1 : H.n + 1 < h.n := at_lt A1
    have E1 : Ext H.n H h := E0.trans (he.mono (by omega))
    have hf : bucketF m id = none := by rw [hf, List.drop_length]; rfl
    have hG : bucketG m id = bkt0 := by unfold bucketG; rw [hf]; rfl
    simp only [core, zrA, zrS, zrM, zrL, zrE, reduceCtorEq, zrD, ziE, ziL, ziN, s1, s2, hn, g1, g4, g9, g10, g11, hc, A1, l1, bdM, fillA]
    rw [hG, hf]
    exact ⟨E1.put _ (by omega), _, _, rfl, IsSl.nil, IsSl.nil⟩
  · simp only [core, zrA, zrS, zrM, zrL, zrE, reduceCtorEq, zrD, ziE, ziL, ziN]
    refine ⟨Ext.refl _ _, rfl, ?_⟩
    (repeat' apply And.intro) <;> first | rfl | trivial
end Go.Proofs.YtfbpjobjdmmgiaaGreat.Ex
end

section

set_option linter.unusedSimpArgs false
set_option linter.unusedVariables false
set_option maxRecDepth 10000
set_option maxHeartbeats 4000000
namespace Go.Proofs.YtfbpjobjdmmgiaaGreat.Ex
open Go
theorem Ext.step {H h h' : AH} (he : Ext H.n H h) (hk : Ext h.n h h') : Ext H.n H h' := he.trans (hk.mono he.1)
theorem bucket_x {F : Nat → Prop} {H : AH} {m : MapD} {vo vp vb : AV} (id : Int) (hm : MpAt F H m vo vp vb) (hl : Sm 64 m.buckets) (hok : ∀ b ∈ m.buckets, Sm 8 b.items ∧ Sm 8 b.weights) :
    WC Tryz.prog (tabOf Tryz.prog NT0) S0 65 [mpV m vo vp vb, .lit (.int .i64 id)] H fun r h' => Ext H.n H h' ∧ ∃ va vw, r = .tup [bktV (bucketG m id) va vw, .lit (.bool (bucketF m id).isSome)] ∧ IsSl RInt (fun b => H.n ≤ b) h' va (bucketG m id).items ∧ IsSl RInt (fun b => H.n ≤ b) h' vw (bucketG m id).weights := by
  refine WC_fn Tryz.func65 rfl rfl ?_
  unfold Sm at hl
  have s1 := hm.b.isSl
  have s2 := hm.b.lenD
  have o1 := hm.o.one
  have o2 := hm.p.one
  have o3 := hm.b.one
  simp only [core, zrA, zrS, zrM, zrL, zrE, reduceCtorEq, zrD, ziE, ziL, ziN, Tryz.ntmps65, mpV, s1, s2, o1, o2, o3]
  obtain ⟨h2, hh2⟩ : ∃ h2, h2 = (H.push (.cells [.lit (.int .i64 m.epoch), vo, vp, vb, .lit (.int .i64 m.leaf)] 69)).push (.cells [.lit (.int .i64 0), .lit (.int .i64 0), .lit (.slice none 0 0), .lit (.slice none 0 0)] 109) := ⟨_, rfl⟩
  have E0 : Ext H.n H h2 := hh2 ▸ ((Ext.refl _ _).push _ (Nat.le_refl _)).push _ (by rw [n_push]; omega)
  have A0 : h2.at (H.n + 1) = some (.cells [.lit (.int .i64 0), .lit (.int .i64 0), .lit (.slice none 0 0), .lit (.slice none 0 0)] 109) := hh2 ▸ at_push_n _ _
  have n2 : h2.n = H.n + 2 := by rw [hh2, n_push, n_push]
  rw [← hh2]
  clear hh2
  refine WB_for m.buckets.length (fun i t h => Ext h2.n h2 h ∧ bucketF m id = (m.buckets.drop i).find? (fun b => b.id == id) ∧ t.n = 30 ∧ t.get 1 = .lit (.int .i64 id) ∧ t.get 4 = .ptr (H.n + 1) 0 ∧ t.get 9 = vb ∧ t.get 10 = .lit (.int .i64 m.buckets.length) ∧ t.get 11 = .lit (.int .i64 i)) ?_ ?_ _ _ ?_
  · rintro i t h hlt hc ⟨he, hf, hn, g1, g4, g9, g10, g11⟩ ih
    obtain ⟨x, hx⟩ : ∃ x, m.buckets[i]? = some x := ⟨_, List.getElem?_eq_getElem hlt⟩
    have E1 : Ext H.n H h := E0.trans (he.mono (by omega))
    obtain ⟨c, hc1, hld, hld0⟩ := hm.b.atE (T := tabOf Tryz.prog NT0) E1 RBkt_z hx
    obtain ⟨va, vw, rfl, ha, hw, i1, i2⟩ := RBkt_is.1 hc1
    obtain ⟨k1, k2⟩ := hok x (List.mem_of_getElem? hx)
    unfold Sm at k1 k2
    have a1 := ha.one
    have w1 := hw.one
    have a2 := ha.isSl
    have w2 := hw.isSl
    have hws := wrap_succ hlt (by omega)
    rw [find_drop hx] at hf
    have A1 : h.at (H.n + 1) = some (.cells [.lit (.int .i64 0), .lit (.int .i64 0), .lit (.slice none 0 0), .lit (.slice none 0 0)] 109) := (he.2 _ (by omega)).trans A0
    have l1 : H.n + 1 < h.n := at_lt A1
    simp only [core, zrA, zrS, zrM, zrL, zrE, reduceCtorEq, zrD, ziE, ziL, ziN, s1, s2, hn, g1, g4, g9, g10, g11, hlt, hc, hld, hld0, hws, a1, w1]
    refine ⟨fun hq => ?_, fun hq => ?_⟩
    · rw [if_pos hq] at hf
      have hG : bucketG m id = x := by unfold bucketG; rw [hf]; rfl
      obtain ⟨hp, hhp⟩ : ∃ hp, hp = h.push (.cells [.lit (.int .i64 x.id), .lit (.int .i64 x.kind), va, vw] 109) := ⟨_, rfl⟩
      have EP : Ext h.n h hp := hhp ▸ (Ext.refl _ _).push _ (Nat.le_refl _)
      have P0 : hp.at h.n = some (.cells [.lit (.int .i64 x.id), .lit (.int .i64 x.kind), va, vw] 109) := hhp ▸ at_push_n h _
      have LP0 := ld_at (T := tabOf Tryz.prog NT0) P0
      rw [← hhp]
      rw [WB_regionD [0, 1, 3, 4, 2, 6, 5, 7, 8, 9] 632895786129742360360258634752 (by kernel_rfl)]
      repeat ((with_reducible refine WDM_cons ?_; simp only [dw1]; try simp only [dw2, zrA, zrM, zrR, zrO, zrE]); simp only [core, zrA, zrS, zrM, zrL, zrE, reduceCtorEq, zrD, ziE, ziL, ziN, cored, hn, g1, g4, g9, g10, g11, LP0, a2, w2])
      have E2 := E1.step EP
      refine (clone_x (ha.ext E2 (Nat.le_refl _)) (by omega)).mono ?_
      rintro ra h3 ⟨e3, ra1, -⟩
      have P3 := (e3.2 _ (at_lt P0)).trans P0
      have LP3 := ld_at (T := tabOf Tryz.prog NT0) P3
      have E3 := E2.step e3
      repeat ((with_reducible refine WDM_cons ?_; simp only [dw1]; try simp only [dw2, zrA, zrM, zrR, zrO, zrE]); simp only [core, zrA, zrS, zrM, zrL, zrE, reduceCtorEq, zrD, ziE, ziL, ziN, cored, hn, g1, g4, g9, g10, g11, LP3, a2, w2])
      refine (clone_x (hw.ext E3 (Nat.le_refl _)) (by omega)).mono ?_
      rintro rw1 h4 ⟨e4, rw2, -⟩
      have P4 := (e4.2 _ (at_lt P3)).trans P3
      have LP4 := ld_at (T := tabOf Tryz.prog NT0) P4
      have E4 := E3.step e4
      have l4 := at_lt P4
      have o4 := ra1.one
      have o5 := rw2.one
      have lh : h.n < hp.n := at_lt P0
      have l3 : hp.n ≤ h3.n := e3.1
      have l5 : h3.n ≤ h4.n := e4.1
      have A4 : h4.at (H.n + 1) = some (.cells [.lit (.int .i64 0), .lit (.int .i64 0), .lit (.slice none 0 0), .lit (.slice none 0 0)] 109) := ((e4.2 _ (by omega)).trans ((e3.2 _ (by omega)).trans (EP.2 _ l1))).trans A1
      have l6 : H.n + 1 < h4.n := at_lt A4
      have hne : ¬ h.n = H.n + 1 := by omega
      repeat ((with_reducible refine WDM_cons ?_; simp only [dw1]; try simp only [dw2, zrA, zrM, zrR, zrO, zrE]); simp only [core, zrA, zrS, zrM, zrL, zrE, reduceCtorEq, zrD, ziE, ziL, ziN, cored, hn, g1, g4, g9, g10, g11, LP4, P4, l4, o4, o5, a2, w2, A4, l6, hne])
      rw [hG, hf]
      have k0 := E1.1
      refine ⟨((E4.put _ (by omega)).put _ (by omega)).put _ (by omega), _, _, rfl, ?_, ?_⟩
      · refine ra1.lift fun b hb hlt => ⟨?_, by omega⟩
        rw [at_put_ne _ (by omega), at_put_ne _ (by omega), at_put_ne _ (by omega)]
        exact e4.2 b hlt
      · refine rw2.lift fun b hb hlt => ⟨?_, by omega⟩
        rw [at_put_ne _ (by omega), at_put_ne _ (by omega), at_put_ne _ (by omega)]
    · rw [if_neg (by rw [hq]; decide)] at hf
      refine ih _ _ ⟨he.push _ he.1, hf, ?_⟩
      simp only [core, zrA, zrS, zrM, zrL, zrE, reduceCtorEq, zrD, ziE, ziL, ziN, hn, g1, g4, g9, g10, g11]
  · rintro t h hc ⟨he, hf, hn, g1, g4, g9, g10, g11⟩
    have A1 : h.at (H.n + 1) = some (.cells [.lit (.int .i64 0), .lit (.int .i64 0), .lit (.slice none 0 0), .lit (.slice none 0 0)] 109) := (he.2 _ (by omega)).trans A0
    have l1 : H.n + 1 < h.n := at_lt A1
    have E1 : Ext H.n H h := E0.trans (he.mono (by omega))
    have hf : bucketF m id = none := by rw [hf, List.drop_length]; rfl
    have hG : bucketG m id = bkt0 := by unfold bucketG; rw [hf]; rfl
    simp only [core, zrA, zrS, zrM, zrL, zrE, reduceCtorEq, zrD, ziE, ziL, ziN, s1, s2, hn, g1, g4, g9, g10, g11, hc, A1, l1, bdM, fillA]
    rw [hG, hf]
    exact ⟨E1.put _ (by omega), _, _, rfl, IsSl.nil, IsSl.nil⟩
  · simp only [core, zrA, zrS, zrM, zrL, zrE, reduceCtorEq, zrD, ziE, ziL, ziN]
    refine ⟨Ext.refl _ _, rfl, ?_⟩
    (repeat' apply And.intro) <;> first | rfl | trivial
end Go.Proofs.YtfbpjobjdmmgiaaGreat.Ex
end

section

set_option linter.unusedSimpArgs false
set_option linter.unusedVariables false
set_option maxRecDepth 10000
set_option maxHeartbeats 4000000
namespace Go.Proofs.YtfbpjobjdmmgiaaGreat.Ex
open Go
def kindF (m : MapD) (item : Int) : Int := if 0 ≤ item then (if item < 8 then 0 else -1) else if (bucketF m item).isSome then (bucketG m item).kind else -1
theorem kind_x {F : Nat → Prop} {H : AH} {m : MapD} {vo vp vb : AV} (item : Int) (hm : MpAt F H m vo vp vb) (hl : Sm 64 m.buckets) :
    WC Tryz.prog (tabOf Tryz.prog NT0) S0 75 [mpV m vo vp vb, .lit (.int .i64 item)] H fun r h' => Ext H.n H h' ∧ r = .lit (.int .i64 (kindF m item)) := by
  refine WC_fn Tryz.func75 rfl rfl ?_
  have o1 := hm.o.one
  have o2 := hm.p.one
  have o3 := hm.b.one
  simp only [core, zrA, zrS, zrM, zrL, zrE, reduceCtorEq, zrD, ziE, ziL, ziN, Tryz.ntmps75, mpV, o1, o2, o3]
  have EP : ∀ x, Ext H.n H (H.push x) := fun x => (Ext.refl _ _).push _ (Nat.le_refl _)
  refine ⟨fun hq => ⟨fun hq2 => ?_, fun hq2 => ?_⟩, fun hq => ?_⟩
  · refine ⟨EP _, ?_⟩
    unfold kindF
    rw [if_pos (by simpa using hq), if_pos (by simpa using hq2)]
  · refine ⟨EP _, ?_⟩
    unfold kindF
    rw [if_pos (by simpa using hq), if_neg (by simpa using hq2)]
  · have hq : ¬ 0 ≤ item := by simpa using hq
    refine (bucketR_x item (hm.ext (EP _) (Nat.le_refl _)) hl).mono ?_
    rintro _ h1 ⟨e1, va, vw, rfl, b1, b2⟩
    have o4 := b1.one
    have o5 := b2.one
    simp only [core, zrA, zrS, zrM, zrL, zrE, reduceCtorEq, zrD, ziE, ziL, ziN, bktV, o4, o5]
    refine ⟨fun hq2 => ?_, fun hq2 => ?_⟩
    · refine ⟨(Ext.step (EP _) e1).push _ (by have := e1.1; rw [n_push] at this; omega), ?_⟩
      unfold kindF
      rw [if_neg hq, if_neg (by simp at hq2; simp [hq2])]
    · refine ⟨(Ext.step (EP _) e1).push _ (by have := e1.1; rw [n_push] at this; omega), ?_⟩
      unfold kindF
      rw [if_neg hq, if_pos (by simpa using hq2)]
def wOk (w : Int) : Bool := decide (0 ≤ w) && decide (w ≤ 1048576)
def itsTo (m : MapD) (i : Nat) : List Int := (m.buckets.take i).flatMap (·.items)
def itemOk (m : MapD) (its : List Int) (b : BktD) (k : Nat) : Bool := decide (0 ≤ kindF m (b.items.getD k 0)) && decide (kindF m (b.items.getD k 0) < b.kind) && !((its ++ b.items.take k).contains (b.items.getD k 0))
def hdOk (m : MapD) (i : Nat) (b : BktD) : Bool := !((m.buckets.take i).any (fun c => c.id == b.id)) && decide (b.id < 0) && decide (1 ≤ b.kind) && decide (b.kind ≤ 3) && (b.items.length == b.weights.length)
def bOk (m : MapD) (i : Nat) (b : BktD) : Bool := hdOk m i b && b.weights.all wOk && (List.range b.items.length).all (itemOk m (itsTo m i) b)
def goodF (m : MapD) : Bool := decide (0 ≤ m.leaf) && decide (m.leaf ≤ 3) && (List.range m.buckets.length).all (fun i => bOk m i (m.buckets.getD i bkt0))
theorem range_all_succ {p : Nat → Bool} {i : Nat} : (List.range (i + 1)).all p = ((List.range i).all p && p i) := by
  rw [List.range_succ, List.all_append]; simp
theorem range_all_false {p : Nat → Bool} {n i : Nat} (hi : i < n) (hp : p i = false) : (List.range n).all p = false := by
  rw [List.all_eq_false]
  exact ⟨i, List.mem_range.2 hi, by simp [hp]⟩
theorem getD_of {α : Type} {l : List α} {i : Nat} {x d : α} (hx : l[i]? = some x) : l.getD i d = x := by rw [List.getD_eq_getElem?_getD, hx]; rfl
theorem good_false {m : MapD} {i : Nat} {x : BktD} (hx : m.buckets[i]? = some x) (h : bOk m i x = false) : goodF m = false := by
  unfold goodF
  rw [range_all_false (i := i) (List.getElem?_eq_some_iff.1 hx).1 (by simp only [getD_of hx]; exact h), Bool.and_false]
theorem itsTo_succ {m : MapD} {i : Nat} {x : BktD} (hx : m.buckets[i]? = some x) : itsTo m (i + 1) = itsTo m i ++ x.items := by
  unfold itsTo
  rw [List.take_add_one, hx, List.flatMap_append]
  simp
theorem any_take {α : Type} {p : α → Bool} {l : List α} {i : Nat} {x : α} (hx : l[i]? = some x) : (l.take (i + 1)).any p = ((l.take i).any p || p x) := by
  rw [List.take_add_one, hx, List.any_append]; simp
theorem any_true' {α : Type} {p : α → Bool} {l : List α} {i : Nat} {x : α} (hx : l[i]? = some x) (hp : p x = true) : l.any p = true := by
  rw [List.any_eq_true]
  exact ⟨x, List.mem_of_getElem? hx, hp⟩
theorem all_take' {α : Type} {p : α → Bool} {l : List α} {i : Nat} {x : α} (hx : l[i]? = some x) : (l.take (i + 1)).all p = ((l.take i).all p && p x) := by
  rw [List.take_add_one, hx, List.all_append]; simp
theorem all_false' {α : Type} {p : α → Bool} {l : List α} {i : Nat} {x : α} (hx : l[i]? = some x) (hp : p x = false) : l.all p = false := by
  rw [List.all_eq_false]
  exact ⟨x, List.mem_of_getElem? hx, by simp [hp]⟩
theorem getD_some' {α : Type} {l : List α} {i : Nat} (d : α) (hi : i < l.length) : l[i]? = some (l.getD i d) := by rw [List.getD_eq_getElem?_getD, List.getElem?_eq_getElem hi]; rfl
theorem contains_take {x : Int} {l : List Int} {i : Nat} (hi : i < l.length) : (l.take (i + 1)).contains x = ((l.take i).contains x || l.getD i 0 == x) := by
  rw [List.take_add_one, getD_some' 0 hi]
  simp only [Option.toList_some, List.contains_eq_any_beq, List.any_append, List.any_cons, List.any_nil, Bool.or_false]
  rw [Bool.beq_comm]
theorem IsSl.i64 {F : Nat → Prop} {h : AH} {v : AV} {xs : List Int} (hs : IsSl RInt F h v xs) : ∀ (i : Nat), i < xs.length → I64 (xs.getD i 0) := fun i hi => by
  obtain ⟨L, h1, _, _, h3⟩ := hs.out
  obtain ⟨c, _, hc⟩ := h3.get (getD_some' 0 hi)
  exact hc.2
/-- The items of a map that is not too great. -/
def OkM (m : MapD) : Prop := Sm 64 m.buckets ∧ (∀ b ∈ m.buckets, Sm 8 b.items ∧ Sm 8 b.weights) ∧ True
theorem nodup_len : ∀ {l r : List Int}, l.Nodup → (∀ x ∈ l, x ∈ r) → l.length ≤ r.length
  | [], r, _, _ => Nat.zero_le _
  | a :: l, r, hn, hs => by
    rw [List.nodup_cons] at hn
    have ha : a ∈ r := hs a (by simp)
    have h1 := List.length_erase_of_mem ha
    have h2 := List.length_pos_of_mem ha
    have h3 := nodup_len (r := r.erase a) hn.2 fun x hx => (List.mem_erase_of_ne (by intro hh; subst hh; exact hn.1 hx)).2 (hs x (by simp [hx]))
    rw [List.length_cons]
    omega
/-- Items so far: unlike, and each is of some kind. -/
def ItsOk (m : MapD) (l : List Int) : Prop := l.Nodup ∧ ∀ d ∈ l, 0 ≤ kindF m d
theorem its_item {m : MapD} {base : List Int} {b : BktD} (hb : ItsOk m base) : ∀ k, k ≤ b.items.length → (List.range k).all (itemOk m base b) = true → ItsOk m (base ++ b.items.take k)
  | 0, _, _ => by rw [List.take_zero, List.append_nil]; exact hb
  | k + 1, hk, h => by
    rw [range_all_succ, Bool.and_eq_true] at h
    obtain ⟨i1, i2⟩ := its_item hb k (by omega) h.1
    have h2 := h.2
    unfold itemOk at h2
    simp only [Bool.and_eq_true, decide_eq_true_eq, Bool.not_eq_true'] at h2
    obtain ⟨⟨h3, _⟩, h4⟩ := h2
    rw [List.take_add_one, getD_some' 0 (by omega), ← List.append_assoc]
    refine ⟨?_, fun d hd => ?_⟩
    · rw [List.nodup_append]
      refine ⟨i1, by simp, fun a ha c hc hac => ?_⟩
      simp only [Option.toList_some, List.mem_singleton] at hc
      subst hc
      subst hac
      rw [List.contains_iff_mem.2 ha] at h4
      cases h4
    · simp only [Option.toList_some, List.mem_append (t := [_]), List.mem_singleton] at hd
      rcases hd with hd | rfl
      · exact i2 d hd
      · exact h3
theorem its_bkts {m : MapD} : ∀ i, i ≤ m.buckets.length → (List.range i).all (fun i => bOk m i (m.buckets.getD i bkt0)) = true → ItsOk m (itsTo m i)
  | 0, _, _ => ⟨List.nodup_nil, fun d hd => by cases hd⟩
  | i + 1, hi, h => by
    rw [range_all_succ, Bool.and_eq_true] at h
    obtain ⟨x, hx⟩ : ∃ x, m.buckets[i]? = some x := ⟨_, List.getElem?_eq_getElem (by omega)⟩
    have h2 := h.2
    rw [getD_of hx] at h2
    unfold bOk at h2
    rw [Bool.and_eq_true] at h2
    have := its_item (its_bkts i (by omega) h.1) x.items.length (Nat.le_refl _) h2.2
    rw [List.take_length] at this
    rw [itsTo_succ hx]
    exact this
theorem its_len {m : MapD} {l : List Int} (h : ItsOk m l) : l.length ≤ 8 + m.buckets.length := by
  have := nodup_len (r := [0, 1, 2, 3, 4, 5, 6, 7] ++ m.buckets.map (·.id)) h.1 fun d hd => by
    have h1 := h.2 d hd
    unfold kindF at h1
    rw [List.mem_append]
    split at h1
    · split at h1
      · left
        simp only [List.mem_cons, List.not_mem_nil, or_false]
        omega
      · omega
    · split at h1
      · rename_i hs
        right
        obtain ⟨b, hb⟩ := Option.isSome_iff_exists.1 hs
        have h2 := List.mem_of_find?_eq_some hb
        have h3 := List.find?_some hb
        exact List.mem_map.2 ⟨b, h2, eq_of_beq h3⟩
      · omega
  rw [List.length_append, List.length_map] at this
  exact this
theorem good_x {F : Nat → Prop} {H : AH} {m : MapD} {vo vp vb : AV} (hm : MpAt F H m vo vp vb) (hok : OkM m) :
    WC Tryz.prog (tabOf Tryz.prog NT0) S0 61 [mpV m vo vp vb] H fun r h' => Ext H.n H h' ∧ r = .lit (.bool (goodF m)) := by
  refine WC_fn Tryz.func61 rfl rfl ?_
  obtain ⟨hl, hbs, hit⟩ := hok
  have hl0 := hl
  unfold Sm at hl
  have s1 := hm.b.isSl
  have s2 := hm.b.lenD
  have o1 := hm.o.one
  have o2 := hm.p.one
  have o3 := hm.b.one
  have hcap : CapOk 4 vb := by obtain ⟨L, -, -, hc, -⟩ := hm.b.out; exact hc
  have EP : ∀ x, Ext H.n H (H.push x) := fun x => (Ext.refl _ _).push _ (Nat.le_refl _)
  simp only [core, zrA, zrS, zrM, zrL, zrE, reduceCtorEq, zrD, ziE, ziL, ziN, Tryz.ntmps61, mpV, o1, o2, o3]
  by_cases hl1 : m.leaf < 0
  · simp only [core, zrA, zrS, zrM, zrL, zrE, reduceCtorEq, zrD, ziE, ziL, ziN, hl1]
    refine ⟨EP _, ?_⟩
    unfold goodF
    rw [decide_eq_false (show ¬ 0 ≤ m.leaf by omega)]
    rfl
  simp only [core, zrA, zrS, zrM, zrL, zrE, reduceCtorEq, zrD, ziE, ziL, ziN, hl1]
  refine ⟨fun hq => ?_, fun hq => ?_⟩
  · refine ⟨EP _, ?_⟩
    unfold goodF
    rw [decide_eq_false (show ¬ m.leaf ≤ 3 by simp at hq; omega), Bool.and_false]
    rfl
  have hl2 : m.leaf ≤ 3 := by simp at hq; omega
  have hg0 : goodF m = (List.range m.buckets.length).all (fun i => bOk m i (m.buckets.getD i bkt0)) := by
    unfold goodF
    rw [decide_eq_true (show 0 ≤ m.leaf by omega), decide_eq_true hl2]
    rfl
  simp only [core, zrA, zrS, zrM, zrL, zrE, reduceCtorEq, zrD, ziE, ziL, ziN, s1, s2]
  obtain ⟨h1, hh1⟩ : ∃ h1, h1 = H.push (.cells [.lit (.int .i64 m.epoch), vo, vp, vb, .lit (.int .i64 m.leaf)] 69) := ⟨_, rfl⟩
  have E0 : Ext H.n H h1 := hh1 ▸ EP _
  have A0 : h1.at H.n = some (.cells [.lit (.int .i64 m.epoch), vo, vp, vb, .lit (.int .i64 m.leaf)] 69) := hh1 ▸ at_push_n _ _
  have n1 : h1.n = H.n + 1 := by rw [hh1, n_push]
  rw [← hh1]
  clear hh1
  refine WB_for m.buckets.length (fun i t h => ∃ o, OwnL RInt (fun _ => False) h1.n h o 3 (itsTo m i) ∧ Ext h1.n h1 h ∧ (List.range i).all (fun i => bOk m i (m.buckets.getD i bkt0)) = true ∧ t.n = 116 ∧ t.get 1 = .ptr H.n 0 ∧ t.get 3 = o ∧ t.get 24 = vb ∧ t.get 25 = .lit (.int .i64 m.buckets.length) ∧ t.get 26 = .lit (.int .i64 i)) ?_ ?_ _ _ ?_
  · rintro i t h hlt hc ⟨o, ho, he, hall, hn, g1, g3, g24, g25, g26⟩ ih
    obtain ⟨x, hx⟩ : ∃ x, m.buckets[i]? = some x := ⟨_, List.getElem?_eq_getElem hlt⟩
    have E1 : Ext H.n H h := E0.trans (he.mono (by omega))
    obtain ⟨c, hc1, hld, hld0⟩ := hm.b.atE (T := tabOf Tryz.prog NT0) E1 RBkt_z hx
    obtain ⟨va, vw, rfl, ha, hw, i1, i2⟩ := RBkt_is.1 hc1
    obtain ⟨k1, k2⟩ := hbs x (List.mem_of_getElem? hx)
    unfold Sm at k1 k2
    have a1 := ha.one
    have w1 := hw.one
    have a2 := ha.isSl
    have w2 := hw.isSl
    have a3 := ha.lenD
    have w3 := hw.lenD
    have hws := wrap_succ hlt (by omega)
    have A1 := (he.2 _ (by omega)).trans A0
    have l1 : H.n < h.n := at_lt A1
    have LA1 := ld_at (T := tabOf Tryz.prog NT0) A1
    have hno : i ≤ m.buckets.length := by omega
    have hno2 : (i : Int) ≤ (m.buckets.length : Int) := by omega
    have hsub : IsSl RBkt F H (subSl 4 0 i vb) (m.buckets.take i) := by have := hm.b.sub (l := 0) (r := i) (by omega) hno; rw [List.drop_zero] at this; exact this
    have s3 := hsub.isSl
    have s4 : lenD (subSl 4 0 i vb) = i := by rw [hsub.lenD, List.length_take]; omega
    simp only [core, zrA, zrS, zrM, zrL, zrE, reduceCtorEq, zrD, ziE, ziL, ziN, s1, s2, hn, g1, g3, g24, g25, g26, hlt, hc, hld, hld0, hws, a1, w1, LA1, l1, hcap, hno, hno2, s3, s4]
    obtain ⟨hA, hhA⟩ : ∃ hA, hA = h.push (.cells [.lit (.int .i64 x.id), .lit (.int .i64 x.kind), va, vw] 109) := ⟨_, rfl⟩
    have EA : Ext h.n h hA := hhA ▸ (Ext.refl _ _).push _ (Nat.le_refl _)
    have PA : hA.at h.n = some (.cells [.lit (.int .i64 x.id), .lit (.int .i64 x.kind), va, vw] 109) := hhA ▸ at_push_n h _
    rw [← hhA]
    clear hhA
    have hbk : bOk m i x = (hdOk m i x && x.weights.all wOk && (List.range x.items.length).all (itemOk m (itsTo m i) x)) := rfl
    have hbad : ∀ h', Ext H.n H h' → bOk m i x = false → Ext H.n H h' ∧ AV.lit (.bool false) = .lit (.bool (goodF m)) := fun h' e hf => ⟨e, by rw [good_false hx hf]⟩
    refine WB_for i (fun j t h' => Ext hA.n hA h' ∧ (m.buckets.take j).any (fun c => c.id == x.id) = false ∧ t.n = 116 ∧ t.get 1 = .ptr H.n 0 ∧ t.get 3 = o ∧ t.get 5 = .ptr h.n 0 ∧ t.get 24 = vb ∧ t.get 25 = .lit (.int .i64 m.buckets.length) ∧ t.get 26 = .lit (.int .i64 i) ∧ t.get 34 = subSl 4 0 i vb ∧ t.get 35 = .lit (.int .i64 i) ∧ t.get 36 = .lit (.int .i64 j)) ?_ ?_ _ _ ?_
    · rintro j t h' hj hc ⟨he2, hany, hn, g1, g3, g5, g24, g25, g26, g34, g35, g36⟩ ih2
      have hjl : j < m.buckets.length := by omega
      obtain ⟨y, hy⟩ : ∃ y, m.buckets[j]? = some y := ⟨_, List.getElem?_eq_getElem hjl⟩
      have hy2 : (m.buckets.take i)[j]? = some y := by rw [List.getElem?_take, if_pos hj, hy]
      have E2 : Ext H.n H h' := (E1.step EA).step he2
      obtain ⟨c, hc1, hld, hld0⟩ := hsub.atE (T := tabOf Tryz.prog NT0) E2 RBkt_z hy2
      obtain ⟨ya, yw, rfl, ya1, yw1, -, -⟩ := RBkt_is.1 hc1
      have y1 := ya1.one
      have y2 := yw1.one
      have hws := wrap_succ hj (by omega)
      have P2 := (he2.2 _ (at_lt PA)).trans PA
      have LP2 := ld_at (T := tabOf Tryz.prog NT0) P2
      have l2 : h.n < h'.n := at_lt P2
      simp only [core, zrA, zrS, zrM, zrL, zrE, reduceCtorEq, zrD, ziE, ziL, ziN, s1, s2, s3, s4, hn, g1, g3, g5, g24, g25, g26, g34, g35, g36, hj, hc, hld, hld0, hws, y1, y2, LP2, l2]
      refine ⟨fun hq => ?_, fun hq => ?_⟩
      · refine hbad _ (E2.push _ E2.1) ?_
        rw [hbk]
        unfold hdOk
        rw [any_true' hy2 hq]
        rfl
      · refine ih2 _ _ ⟨he2.push _ he2.1, ?_, ?_⟩
        · rw [any_take hy, hany]
          simpa using hq
        · simp only [core, zrA, zrS, zrM, zrL, zrE, reduceCtorEq, zrD, ziE, ziL, ziN, hn, g1, g3, g5, g24, g25, g26, g34, g35, g36]
    · rintro t h' hc ⟨he2, hany, hn, g1, g3, g5, g24, g25, g26, g34, g35, g36⟩
      have E2 : Ext H.n H h' := (E1.step EA).step he2
      have P2 := (he2.2 _ (at_lt PA)).trans PA
      have LP2 := ld_at (T := tabOf Tryz.prog NT0) P2
      have l2 : h.n < h'.n := at_lt P2
      by_cases c1 : 0 ≤ x.id
      · simp only [core, zrA, zrS, zrM, zrL, zrE, reduceCtorEq, zrD, ziE, ziL, ziN, s1, s2, s3, s4, hn, g1, g3, g5, g24, g25, g26, g34, g35, g36, hc, LP2, l2, c1]
        refine hbad _ E2 ?_
        rw [hbk]; unfold hdOk
        rw [decide_eq_false (show ¬ x.id < 0 by omega)]; simp
      by_cases c2 : x.kind < 1
      · simp only [core, zrA, zrS, zrM, zrL, zrE, reduceCtorEq, zrD, ziE, ziL, ziN, s1, s2, s3, s4, hn, g1, g3, g5, g24, g25, g26, g34, g35, g36, hc, LP2, l2, c1, c2]
        refine hbad _ E2 ?_
        rw [hbk]; unfold hdOk
        rw [decide_eq_false (show ¬ 1 ≤ x.kind by omega)]; simp
      by_cases c3 : 3 < x.kind
      · simp only [core, zrA, zrS, zrM, zrL, zrE, reduceCtorEq, zrD, ziE, ziL, ziN, s1, s2, s3, s4, hn, g1, g3, g5, g24, g25, g26, g34, g35, g36, hc, LP2, l2, c1, c2, c3]
        refine hbad _ E2 ?_
        rw [hbk]; unfold hdOk
        rw [decide_eq_false (show ¬ x.kind ≤ 3 by omega)]; simp
      simp only [core, zrA, zrS, zrM, zrL, zrE, reduceCtorEq, zrD, ziE, ziL, ziN, s1, s2, s3, s4, hn, g1, g3, g5, g24, g25, g26, g34, g35, g36, hc, LP2, l2, c1, c2, c3, a2, w2, a3, w3]
      refine ⟨fun hq => ?_, fun hq => ?_⟩
      · refine hbad _ E2 ?_
        rw [hbk]; unfold hdOk
        have : ¬ x.items.length = x.weights.length := by simp at hq; omega
        simp [this]
      have hlen : x.items.length = x.weights.length := by simp at hq; omega
      have hhd : hdOk m i x = true := by
        unfold hdOk
        rw [hany, decide_eq_true (show x.id < 0 by omega), decide_eq_true (show 1 ≤ x.kind by omega), decide_eq_true (show x.kind ≤ 3 by omega)]
        simp [hlen]
      rw [hhd, Bool.true_and] at hbk
      refine WB_for x.weights.length (fun j t h'' => h'' = h' ∧ (x.weights.take j).all wOk = true ∧ t.n = 116 ∧ t.get 1 = .ptr H.n 0 ∧ t.get 3 = o ∧ t.get 5 = .ptr h.n 0 ∧ t.get 24 = vb ∧ t.get 25 = .lit (.int .i64 m.buckets.length) ∧ t.get 26 = .lit (.int .i64 i) ∧ t.get 69 = vw ∧ t.get 70 = .lit (.int .i64 x.weights.length) ∧ t.get 71 = .lit (.int .i64 j)) ?_ ?_ _ _ ?_
      · rintro j t h'' hj hc ⟨rfl, hwall, hn, g1, g3, g5, g24, g25, g26, g69, g70, g71⟩ ih3
        have hldw := (hw.ext E2 (Nat.le_refl _)).int (T := tabOf Tryz.prog NT0) (e := 3) (by kernel_rfl) (by kernel_rfl) hj
        have hws := wrap_succ hj (by omega)
        have hjx := getD_some' 0 hj
        by_cases d1 : x.weights.getD j 0 < 0
        · simp only [core, zrA, zrS, zrM, zrL, zrE, reduceCtorEq, zrD, ziE, ziL, ziN, hn, g1, g3, g5, g24, g25, g26, g69, g70, g71, hc, hj, hldw, w2, w3, d1]
          refine hbad _ E2 ?_
          rw [hbk, all_false' hjx (by unfold wOk; rw [decide_eq_false (by omega)]; rfl)]
          rfl
        · simp only [core, zrA, zrS, zrM, zrL, zrE, reduceCtorEq, zrD, ziE, ziL, ziN, hn, g1, g3, g5, g24, g25, g26, g69, g70, g71, hc, hj, hldw, w2, w3, d1]
          refine ⟨fun hq => ?_, fun hq => ?_⟩
          · refine hbad _ E2 ?_
            rw [hbk, all_false' hjx (by unfold wOk; rw [decide_eq_false (show ¬ x.weights.getD j 0 ≤ 1048576 by have := of_decide_eq_true hq; omega), Bool.and_false])]
            rfl
          · simp only [hws]
            refine ih3 _ _ ⟨rfl, ?_, ?_⟩
            · rw [all_take' hjx, hwall]
              unfold wOk
              rw [decide_eq_true (show 0 ≤ x.weights.getD j 0 by omega), decide_eq_true (show x.weights.getD j 0 ≤ 1048576 by have := of_decide_eq_false hq; omega)]
              rfl
            · simp only [core, zrA, zrS, zrM, zrL, zrE, reduceCtorEq, zrD, ziE, ziL, ziN, hn, g1, g3, g5, g24, g25, g26, g69, g70, g71]
      · rintro t h'' hc ⟨rfl, hwall, hn, g1, g3, g5, g24, g25, g26, g69, g70, g71⟩
        rw [List.take_length] at hwall
        rw [hwall, Bool.true_and] at hbk
        simp only [core, zrA, zrS, zrM, zrL, zrE, reduceCtorEq, zrD, ziE, ziL, ziN, hn, g1, g3, g5, g24, g25, g26, g69, g70, g71, hc, LP2, l2, a2, a3]
        refine WB_for x.items.length (fun k t h3 => ∃ o', OwnL RInt (fun _ => False) h1.n h3 o' 3 (itsTo m i ++ x.items.take k) ∧ Ext h1.n h1 h3 ∧ Apart o' h.n ∧ h3.at h.n = some (.cells [.lit (.int .i64 x.id), .lit (.int .i64 x.kind), va, vw] 109) ∧ (List.range k).all (itemOk m (itsTo m i) x) = true ∧ t.n = 116 ∧ t.get 1 = .ptr H.n 0 ∧ t.get 3 = o' ∧ t.get 5 = .ptr h.n 0 ∧ t.get 24 = vb ∧ t.get 25 = .lit (.int .i64 m.buckets.length) ∧ t.get 26 = .lit (.int .i64 i) ∧ t.get 83 = va ∧ t.get 84 = .lit (.int .i64 x.items.length) ∧ t.get 85 = .lit (.int .i64 k)) ?_ ?_ _ _ ?_
        · rintro k t h3 hk hc ⟨o', ho', he3, hap, P3, hkall, hn, g1, g3, g5, g24, g25, g26, g83, g84, g85⟩ ih4
          have E3 : Ext H.n H h3 := E0.trans (he3.mono (by omega))
          have hlda := (ha.ext E3 (Nat.le_refl _)).int (T := tabOf Tryz.prog NT0) (e := 3) (by kernel_rfl) (by kernel_rfl) hk
          have A3 := (he3.2 _ (by omega)).trans A0
          have l3 : H.n < h3.n := at_lt A3
          have LA3 := ld_at (T := tabOf Tryz.prog NT0) A3
          have hws := wrap_succ hk (by omega)
          simp only [core, zrA, zrS, zrM, zrL, zrE, reduceCtorEq, zrD, ziE, ziL, ziN, hn, g1, g3, g5, g24, g25, g26, g83, g84, g85, hc, hk, hlda, a2, a3, LA3, l3]
          refine (kind_x (x.items.getD k 0) (hm.ext E3 (Nat.le_refl _)) hl0).mono ?_
          rintro _ h4 ⟨e4, rfl⟩
          have he4 : Ext h1.n h1 h4 := Ext.step he3 e4
          have E4 : Ext H.n H h4 := E3.step e4
          have ho4 := ho'.ext e4 (Nat.le_refl _)
          have P4 := (e4.2 _ (at_lt P3)).trans P3
          have l4 : h.n < h4.n := at_lt P4
          have LP4 := ld_at (T := tabOf Tryz.prog NT0) P4
          by_cases d1 : kindF m (x.items.getD k 0) < 0
          · simp only [core, zrA, zrS, zrM, zrL, zrE, reduceCtorEq, zrD, ziE, ziL, ziN, hn, g1, g3, g5, g24, g25, g26, g83, g84, g85, hc, d1]
            refine hbad _ E4 ?_
            rw [hbk, range_all_false hk (by unfold itemOk; rw [decide_eq_false (show ¬ 0 ≤ kindF m (x.items.getD k 0) by omega)]; rfl)]
          simp only [core, zrA, zrS, zrM, zrL, zrE, reduceCtorEq, zrD, ziE, ziL, ziN, hn, g1, g3, g5, g24, g25, g26, g83, g84, g85, hc, d1, LP4, l4]
          refine ⟨fun hq => ?_, fun hq => ?_⟩
          · refine hbad _ E4 ?_
            rw [hbk, range_all_false hk (by unfold itemOk; rw [decide_eq_false (show ¬ kindF m (x.items.getD k 0) < x.kind by have := of_decide_eq_true hq; omega), Bool.and_false]; rfl)]
          have d2 : kindF m (x.items.getD k 0) < x.kind := by have := of_decide_eq_false hq; omega
          have v4 := ho4.toSl (F := fun _ => True) (fun _ _ => trivial) (fun _ _ => trivial)
          have b2 := v4.isSl
          have b3 := v4.lenD
          have hlen4 : (itsTo m i ++ x.items.take k).length ≤ 8 + m.buckets.length := its_len (its_item (its_bkts i (by omega) hall) k (by omega) hkall)
          simp only [core, zrA, zrS, zrM, zrL, zrE, reduceCtorEq, zrD, ziE, ziL, ziN, hn, g1, g3, g5, g24, g25, g26, g83, g84, g85, hc, b2, b3]
          refine WB_for (itsTo m i ++ x.items.take k).length (fun j t h5 => h5 = h4 ∧ ((itsTo m i ++ x.items.take k).take j).contains (x.items.getD k 0) = false ∧ t.n = 116 ∧ t.get 1 = .ptr H.n 0 ∧ t.get 3 = o' ∧ t.get 5 = .ptr h.n 0 ∧ t.get 11 = .lit (.int .i64 (x.items.getD k 0)) ∧ t.get 24 = vb ∧ t.get 25 = .lit (.int .i64 m.buckets.length) ∧ t.get 26 = .lit (.int .i64 i) ∧ t.get 83 = va ∧ t.get 84 = .lit (.int .i64 x.items.length) ∧ t.get 85 = .lit (.int .i64 k) ∧ t.get 100 = o' ∧ t.get 101 = .lit (.int .i64 (itsTo m i ++ x.items.take k).length) ∧ t.get 102 = .lit (.int .i64 j)) ?_ ?_ _ _ ?_
          · rintro j t h5 hj hc ⟨rfl, hcon, hn, g1, g3, g5, g11, g24, g25, g26, g83, g84, g85, g100, g101, g102⟩ ih5
            have hld5 := v4.int (T := tabOf Tryz.prog NT0) (e := 3) (by kernel_rfl) (by kernel_rfl) hj
            have hws := wrap_succ hj (by omega)
            simp only [core, zrA, zrS, zrM, zrL, zrE, reduceCtorEq, zrD, ziE, ziL, ziN, hn, g1, g3, g5, g11, g24, g25, g26, g83, g84, g85, g100, g101, g102, hc, hj, hld5, b2, b3, hws]
            refine ⟨fun hq => ?_, fun hq => ?_⟩
            · refine hbad _ E4 ?_
              rw [hbk, range_all_false hk ?_]
              unfold itemOk
              have : (itsTo m i ++ x.items.take k).contains (x.items.getD k 0) = true := by
                rw [List.contains_iff_mem, ← eq_of_beq hq]
                exact List.mem_of_getElem? (getD_some' 0 hj)
              rw [this]
              simp
            · refine ih5 _ _ ⟨rfl, ?_, ?_⟩
              · rw [contains_take hj, hcon, hq]; rfl
              · simp only [core, zrA, zrS, zrM, zrL, zrE, reduceCtorEq, zrD, ziE, ziL, ziN, hn, g1, g3, g5, g11, g24, g25, g26, g83, g84, g85, g100, g101, g102]
          · rintro t h5 hc ⟨rfl, hcon, hn, g1, g3, g5, g11, g24, g25, g26, g83, g84, g85, g100, g101, g102⟩
            rw [List.take_length] at hcon
            simp only [core, zrA, zrS, zrM, zrL, zrE, reduceCtorEq, zrD, ziE, ziL, ziN, hn, g1, g3, g5, g11, g24, g25, g26, g83, g84, g85, g100, g101, g102, hc]
            obtain ⟨h6, hh6⟩ : ∃ h6, h6 = h5.push (.cells [.lit (.int .i64 (x.items.getD k 0))] 3) := ⟨_, rfl⟩
            have e6 : Ext h5.n h5 h6 := hh6 ▸ (Ext.refl _ _).push _ (Nat.le_refl _)
            have A6 : h6.at h5.n = some (.cells [.lit (.int .i64 (x.items.getD k 0))] 3) := hh6 ▸ at_push_n h5 _
            have n6 := at_lt A6
            rw [← hh6]
            have ho6 := ho4.ext e6 (Nat.le_refl _)
            have q0 := he4.1
            refine WOp_app (ho6.snoc (by kernel_rfl) (by kernel_rfl) (by kernel_rfl) (zv := .lit (.int .i64 0)) (by kernel_rfl) (by' := 8) (by kernel_rfl) rfl (by decide) (by decide) A6 (y := x.items.getD k 0) ⟨rfl, ha.i64 k hk⟩ (by omega) (by omega) (by omega)) ?_
            rintro s' h7 ⟨o7, e7, k7⟩
            obtain ⟨k8, k9⟩ := k7 h.n (by omega) hap
            simp only [core, zrA, zrS, zrM, zrL, zrE, reduceCtorEq, zrD, ziE, ziL, ziN, hn, g1, g3, g5, g11, g24, g25, g26, g83, g84, g85, g100, g101, g102, hws]
            refine ih4 _ _ ⟨s', ?_, (he4.step e6).trans e7, k9, k8.trans ((e6.2 _ (by omega)).trans P4), ?_, ?_⟩
            · rw [List.take_add_one, getD_some' 0 hk]
              simpa using o7
            · rw [range_all_succ, hkall]
              unfold itemOk
              rw [decide_eq_true (show 0 ≤ kindF m (x.items.getD k 0) by omega), decide_eq_true d2, hcon]
              rfl
            · simp only [core, zrA, zrS, zrM, zrL, zrE, reduceCtorEq, zrD, ziE, ziL, ziN, hn, g1, g3, g5, g11, g24, g25, g26, g83, g84, g85, g100, g101, g102]
          · simp only [core, zrA, zrS, zrM, zrL, zrE, reduceCtorEq, zrD, ziE, ziL, ziN, hn, g1, g3, g5, g24, g25, g26, g83, g84, g85]
            refine ⟨rfl, ?_⟩
            (repeat' apply And.intro) <;> first | rfl | trivial
        · rintro t h3 hc ⟨o', ho', he3, hap, P3, hkall, hn, g1, g3, g5, g24, g25, g26, g83, g84, g85⟩
          rw [List.take_length] at ho'
          simp only [core, zrA, zrS, zrM, zrL, zrE, reduceCtorEq, zrD, ziE, ziL, ziN, hn, g1, g3, g5, g24, g25, g26, g83, g84, g85, hc, hws]
          refine ih _ _ ⟨o', ?_, he3, ?_, ?_⟩
          · rw [itsTo_succ hx]; exact ho'
          · rw [range_all_succ, hall, getD_of hx, hbk, hkall]; rfl
          · simp only [core, zrA, zrS, zrM, zrL, zrE, reduceCtorEq, zrD, ziE, ziL, ziN, hn, g1, g3, g5, g24, g25, g26, g83, g84, g85]
        · refine ⟨o, ?_, ?_, ?_, P2, rfl, ?_⟩
          · rw [List.take_zero, List.append_nil]
            exact ((ho.ext EA (Nat.le_refl _)).ext he2 (Nat.le_refl _))
          · exact (he.step EA).step he2
          · exact ho.apart (Nat.le_refl _)
          · simp only [core, zrA, zrS, zrM, zrL, zrE, reduceCtorEq, zrD, ziE, ziL, ziN, hn, g1, g3, g5, g24, g25, g26, g69, g70, g71]
            (repeat' apply And.intro) <;> first | rfl | trivial
      · simp only [core, zrA, zrS, zrM, zrL, zrE, reduceCtorEq, zrD, ziE, ziL, ziN, hn, g1, g3, g5, g24, g25, g26, g34, g35, g36]
        (repeat' apply And.intro) <;> first | rfl | trivial
    · simp only [core, zrA, zrS, zrM, zrL, zrE, reduceCtorEq, zrD, ziE, ziL, ziN, hn, g1, g3, g24, g25, g26]
      refine ⟨Ext.refl _ _, rfl, ?_⟩
      (repeat' apply And.intro) <;> first | rfl | trivial
  · rintro t h hc ⟨o, ho, he, hall, hn, g1, g3, g24, g25, g26⟩
    simp only [core, zrA, zrS, zrM, zrL, zrE, reduceCtorEq, zrD, ziE, ziL, ziN, s1, s2, hn, g1, g3, g24, g25, g26, hc]
    exact ⟨E0.trans (he.mono (by omega)), by rw [hg0, hall]⟩
  · refine ⟨_, OwnL.nil, Ext.refl _ _, rfl, ?_⟩
    simp only [core, zrA, zrS, zrM, zrL, zrE, reduceCtorEq, zrD, ziE, ziL, ziN]
    (repeat' apply And.intro) <;> first | rfl | trivial
end Go.Proofs.YtfbpjobjdmmgiaaGreat.Ex
end

section

set_option linter.unusedSimpArgs false
set_option linter.unusedVariables false
set_option maxRecDepth 10000
set_option maxHeartbeats 4000000
namespace Go.Proofs.YtfbpjobjdmmgiaaGreat.Ex
open Go
def pool0 : PoolD := ⟨0, 0, 0, 0⟩
def poolV (p : PoolD) : AV := .agg [.lit (.int .i64 p.id), .lit (.int .i64 p.size), .lit (.int .i64 p.min), .lit (.int .i64 p.pgs)]
def poolF (m : MapD) (id : Int) : Option PoolD := m.pools.find? (fun b => b.id == id)
def poolG (m : MapD) (id : Int) : PoolD := (poolF m id).getD pool0
end Go.Proofs.YtfbpjobjdmmgiaaGreat.Ex
end

section

set_option linter.unusedSimpArgs false
set_option linter.unusedVariables false
set_option maxRecDepth 10000
set_option maxHeartbeats 4000000
namespace Go.Proofs.YtfbpjobjdmmgiaaGreat.Ex
open Go
theorem encB_len (b : Bool) : (encB b).length = 1 := rfl
def encPool (p : PoolD) : List UInt8 := encN .i64 p.id 8 ++ (encN .i64 p.size 8 ++ (encN .i64 p.min 8 ++ encN .i64 p.pgs 8))
theorem encPool_len (p : PoolD) : (encPool p).length = 32 := by unfold encPool; simp only [List.length_append, encN_len]
def osdV (o : OsdD) : AV := .agg [.lit (.bool o.ex), .lit (.bool o.up), .lit (.int .i64 o.weight), .lit (.int .i64 o.boot), .lit (.int .i64 o.upFrom), .lit (.int .i64 o.upThru)]
def encOsd (o : OsdD) : List UInt8 := encB o.ex ++ (encB o.up ++ (encN .i64 o.weight 8 ++ (encN .i64 o.boot 8 ++ (encN .i64 o.upFrom 8 ++ encN .i64 o.upThru 8))))
theorem encOsd_len (p : OsdD) : (encOsd p).length = 34 := by unfold encOsd; simp only [List.length_append, encN_len, encB_len]
theorem putPool_x {H : AH} {v : AV} {xs : List UInt8} {n0 : Nat} (p : PoolD) (ho : OwnB n0 H v xs) (hn0 : n0 ≤ H.n) (hl : xs.length + 32 ≤ 140737488355328) :
    WC Tryz.prog (tabOf Tryz.prog NT0) S0 37 [v, poolV p] H fun r h' => Fr H v h' r ∧ OwnB n0 h' r (xs ++ encPool p) := by
  refine WC_fn Tryz.func37 rfl rfl ?_
  have s1 := (ho.toSl (F := fun _ => True) (fun _ h => h.elim) (fun _ _ => trivial)).isSl
  simp only [core, zrA, zrS, zrM, zrL, zrE, reduceCtorEq, zrD, ziE, ziL, ziN, Tryz.ntmps37, poolV, s1]
  obtain ⟨h0, hh0⟩ : ∃ h0, h0 = H.push (.cells [.lit (.int .i64 p.id), .lit (.int .i64 p.size), .lit (.int .i64 p.min), .lit (.int .i64 p.pgs)] 102) := ⟨_, rfl⟩
  have E0 : Ext H.n H h0 := hh0 ▸ (Ext.refl _ _).push _ (Nat.le_refl _)
  have A0 : h0.at H.n = some (.cells [.lit (.int .i64 p.id), .lit (.int .i64 p.size), .lit (.int .i64 p.min), .lit (.int .i64 p.pgs)] 102) := hh0 ▸ at_push_n _ _
  rw [← hh0]
  clear hh0
  have n1 := E0.1
  have ap0 : Apart v H.n := ho.apart (.inr (Nat.le_refl _))
  have F0 : Fr H v h0 v := Fr.ext E0
  have o0 := ho.ext E0 (Nat.le_refl _)
  refine (int2_x (p.id) o0 (by have := F0.1; omega) (by omega)).mono ?_
  rintro r1 h1 ⟨f1, o1⟩
  obtain ⟨A1, ap1⟩ := f1.box A0 ap0
  have F1 := F0.trans f1
  have L1 := ld_at (T := tabOf Tryz.prog NT0) A1
  have l1 := at_lt A1
  have v1 := (o1.toSl (F := fun _ => True) (fun _ h => h.elim) (fun _ _ => trivial)).isSl
  simp only [core, zrA, zrS, zrM, zrL, zrE, reduceCtorEq, zrD, ziE, ziL, ziN, L1, l1, v1]
  refine (int2_x (p.size) o1 (by have := F1.1; omega) (by simp only [List.length_append, encN_len, encB_len, encPool_len]; omega)).mono ?_
  rintro r2 h2 ⟨f2, o2⟩
  obtain ⟨A2, ap2⟩ := f2.box A1 ap1
  have F2 := F1.trans f2
  have L2 := ld_at (T := tabOf Tryz.prog NT0) A2
  have l2 := at_lt A2
  have v2 := (o2.toSl (F := fun _ => True) (fun _ h => h.elim) (fun _ _ => trivial)).isSl
  simp only [core, zrA, zrS, zrM, zrL, zrE, reduceCtorEq, zrD, ziE, ziL, ziN, L2, l2, v2]
  refine (int2_x (p.min) o2 (by have := F2.1; omega) (by simp only [List.length_append, encN_len, encB_len, encPool_len]; omega)).mono ?_
  rintro r3 h3 ⟨f3, o3⟩
  obtain ⟨A3, ap3⟩ := f3.box A2 ap2
  have F3 := F2.trans f3
  have L3 := ld_at (T := tabOf Tryz.prog NT0) A3
  have l3 := at_lt A3
  have v3 := (o3.toSl (F := fun _ => True) (fun _ h => h.elim) (fun _ _ => trivial)).isSl
  simp only [core, zrA, zrS, zrM, zrL, zrE, reduceCtorEq, zrD, ziE, ziL, ziN, L3, l3, v3]
  refine (int2_x (p.pgs) o3 (by have := F3.1; omega) (by simp only [List.length_append, encN_len, encB_len, encPool_len]; omega)).mono ?_
  rintro r4 h4 ⟨f4, o4⟩
  obtain ⟨A4, ap4⟩ := f4.box A3 ap3
  have F4 := F3.trans f4
  have L4 := ld_at (T := tabOf Tryz.prog NT0) A4
  have l4 := at_lt A4
  have v4 := (o4.toSl (F := fun _ => True) (fun _ h => h.elim) (fun _ _ => trivial)).isSl
  simp only [core, zrA, zrS, zrM, zrL, zrE, reduceCtorEq, zrD, ziE, ziL, ziN, L4, l4, v4]
  exact ⟨F4, by
    unfold encPool
    simpa only [List.append_assoc] using o4⟩
theorem putOsd_x {H : AH} {v : AV} {xs : List UInt8} {n0 : Nat} (o : OsdD) (ho : OwnB n0 H v xs) (hn0 : n0 ≤ H.n) (hl : xs.length + 34 ≤ 140737488355328) :
    WC Tryz.prog (tabOf Tryz.prog NT0) S0 36 [v, osdV o] H fun r h' => Fr H v h' r ∧ OwnB n0 h' r (xs ++ encOsd o) := by
  refine WC_fn Tryz.func36 rfl rfl ?_
  have s1 := (ho.toSl (F := fun _ => True) (fun _ h => h.elim) (fun _ _ => trivial)).isSl
  simp only [core, zrA, zrS, zrM, zrL, zrE, reduceCtorEq, zrD, ziE, ziL, ziN, Tryz.ntmps36, osdV, s1]
  obtain ⟨h0, hh0⟩ : ∃ h0, h0 = H.push (.cells [.lit (.bool o.ex), .lit (.bool o.up), .lit (.int .i64 o.weight), .lit (.int .i64 o.boot), .lit (.int .i64 o.upFrom), .lit (.int .i64 o.upThru)] 121) := ⟨_, rfl⟩
  have E0 : Ext H.n H h0 := hh0 ▸ (Ext.refl _ _).push _ (Nat.le_refl _)
  have A0 : h0.at H.n = some (.cells [.lit (.bool o.ex), .lit (.bool o.up), .lit (.int .i64 o.weight), .lit (.int .i64 o.boot), .lit (.int .i64 o.upFrom), .lit (.int .i64 o.upThru)] 121) := hh0 ▸ at_push_n _ _
  rw [← hh0]
  clear hh0
  have n1 := E0.1
  have ap0 : Apart v H.n := ho.apart (.inr (Nat.le_refl _))
  have F0 : Fr H v h0 v := Fr.ext E0
  have o0 := ho.ext E0 (Nat.le_refl _)
  refine (bool2_x (o.ex) o0 (by have := F0.1; omega) (by omega)).mono ?_
  rintro r1 h1 ⟨f1, o1⟩
  obtain ⟨A1, ap1⟩ := f1.box A0 ap0
  have F1 := F0.trans f1
  have L1 := ld_at (T := tabOf Tryz.prog NT0) A1
  have l1 := at_lt A1
  have v1 := (o1.toSl (F := fun _ => True) (fun _ h => h.elim) (fun _ _ => trivial)).isSl
  simp only [core, zrA, zrS, zrM, zrL, zrE, reduceCtorEq, zrD, ziE, ziL, ziN, L1, l1, v1]
  refine (bool2_x (o.up) o1 (by have := F1.1; omega) (by simp only [List.length_append, encN_len, encB_len, encPool_len]; omega)).mono ?_
  rintro r2 h2 ⟨f2, o2⟩
  obtain ⟨A2, ap2⟩ := f2.box A1 ap1
  have F2 := F1.trans f2
  have L2 := ld_at (T := tabOf Tryz.prog NT0) A2
  have l2 := at_lt A2
  have v2 := (o2.toSl (F := fun _ => True) (fun _ h => h.elim) (fun _ _ => trivial)).isSl
  simp only [core, zrA, zrS, zrM, zrL, zrE, reduceCtorEq, zrD, ziE, ziL, ziN, L2, l2, v2]
  refine (int2_x (o.weight) o2 (by have := F2.1; omega) (by simp only [List.length_append, encN_len, encB_len, encPool_len]; omega)).mono ?_
  rintro r3 h3 ⟨f3, o3⟩
  obtain ⟨A3, ap3⟩ := f3.box A2 ap2
  have F3 := F2.trans f3
  have L3 := ld_at (T := tabOf Tryz.prog NT0) A3
  have l3 := at_lt A3
  have v3 := (o3.toSl (F := fun _ => True) (fun _ h => h.elim) (fun _ _ => trivial)).isSl
  simp only [core, zrA, zrS, zrM, zrL, zrE, reduceCtorEq, zrD, ziE, ziL, ziN, L3, l3, v3]
  refine (int2_x (o.boot) o3 (by have := F3.1; omega) (by simp only [List.length_append, encN_len, encB_len, encPool_len]; omega)).mono ?_
  rintro r4 h4 ⟨f4, o4⟩
  obtain ⟨A4, ap4⟩ := f4.box A3 ap3
  have F4 := F3.trans f4
  have L4 := ld_at (T := tabOf Tryz.prog NT0) A4
  have l4 := at_lt A4
  have v4 := (o4.toSl (F := fun _ => True) (fun _ h => h.elim) (fun _ _ => trivial)).isSl
  simp only [core, zrA, zrS, zrM, zrL, zrE, reduceCtorEq, zrD, ziE, ziL, ziN, L4, l4, v4]
  refine (int2_x (o.upFrom) o4 (by have := F4.1; omega) (by simp only [List.length_append, encN_len, encB_len, encPool_len]; omega)).mono ?_
  rintro r5 h5 ⟨f5, o5⟩
  obtain ⟨A5, ap5⟩ := f5.box A4 ap4
  have F5 := F4.trans f5
  have L5 := ld_at (T := tabOf Tryz.prog NT0) A5
  have l5 := at_lt A5
  have v5 := (o5.toSl (F := fun _ => True) (fun _ h => h.elim) (fun _ _ => trivial)).isSl
  simp only [core, zrA, zrS, zrM, zrL, zrE, reduceCtorEq, zrD, ziE, ziL, ziN, L5, l5, v5]
  refine (int2_x (o.upThru) o5 (by have := F5.1; omega) (by simp only [List.length_append, encN_len, encB_len, encPool_len]; omega)).mono ?_
  rintro r6 h6 ⟨f6, o6⟩
  obtain ⟨A6, ap6⟩ := f6.box A5 ap5
  have F6 := F5.trans f6
  have L6 := ld_at (T := tabOf Tryz.prog NT0) A6
  have l6 := at_lt A6
  have v6 := (o6.toSl (F := fun _ => True) (fun _ h => h.elim) (fun _ _ => trivial)).isSl
  simp only [core, zrA, zrS, zrM, zrL, zrE, reduceCtorEq, zrD, ziE, ziL, ziN, L6, l6, v6]
  exact ⟨F6, by
    unfold encOsd
    simpa only [List.append_assoc] using o6⟩
end Go.Proofs.YtfbpjobjdmmgiaaGreat.Ex
end

section

set_option linter.unusedSimpArgs false
set_option linter.unusedVariables false
set_option maxRecDepth 10000
set_option maxHeartbeats 4000000
namespace Go.Proofs.YtfbpjobjdmmgiaaGreat.Ex
open Go
def encC (n : Nat) : List UInt8 := encN .u32 (IntKind.u32.wrap n) 4
theorem encC_len (n : Nat) : (encC n).length = 4 := encN_len _ _ _
def encI (l : List Int) : List UInt8 := l.flatMap fun x => encN .i64 x 8
theorem encI_len : ∀ l : List Int, (encI l).length = 8 * l.length
  | [] => rfl
  | x :: l => by
    have := encI_len l
    unfold encI at this ⊢
    rw [List.flatMap_cons, List.length_append, encN_len, this, List.length_cons]
    omega
theorem flat_succ {α β : Type} (f : α → List β) {l : List α} {i : Nat} {x : α} (hx : l[i]? = some x) : (l.take (i + 1)).flatMap f = (l.take i).flatMap f ++ f x := by
  rw [List.take_add_one, hx, List.flatMap_append]
  simp
def encBkt (b : BktD) : List UInt8 := encN .i64 b.id 8 ++ (encN .i64 b.kind 8 ++ (encC b.items.length ++ (encI b.items ++ (encC b.weights.length ++ encI b.weights))))
theorem encBkt_len (b : BktD) : (encBkt b).length = 24 + 8 * b.items.length + 8 * b.weights.length := by unfold encBkt; simp only [List.length_append, encN_len, encC_len, encI_len]; omega
theorem putBucket_x {F : Nat → Prop} {H : AH} {v va vw : AV} {xs : List UInt8} {n0 : Nat} (b : BktD) (ha : IsSl RInt F H va b.items) (hw : IsSl RInt F H vw b.weights) (hF : ∀ k, F k → k < n0) (ho : OwnB n0 H v xs) (hn0 : n0 ≤ H.n)
    (la : Sm 8 b.items) (lw : Sm 8 b.weights) (hl : xs.length + (24 + 8 * b.items.length + 8 * b.weights.length) ≤ 140737488355328) :
    WC Tryz.prog (tabOf Tryz.prog NT0) S0 38 [v, bktV b va vw] H fun r h' => Fr H v h' r ∧ OwnB n0 h' r (xs ++ encBkt b) := by
  refine WC_fn Tryz.func38 rfl rfl ?_
  unfold Sm at la lw
  have s1 := (ho.toSl (F := fun _ => True) (fun _ h => h.elim) (fun _ _ => trivial)).isSl
  have a1 := ha.isSl
  have a2 := ha.lenD
  have a3 := ha.one
  have w1 := hw.isSl
  have w2 := hw.lenD
  have w3 := hw.one
  simp only [core, zrA, zrS, zrM, zrL, zrE, reduceCtorEq, zrD, ziE, ziL, ziN, Tryz.ntmps38, bktV, s1, a1, a2, a3, w1, w2, w3]
  obtain ⟨h0, hh0⟩ : ∃ h0, h0 = H.push (.cells [.lit (.int .i64 b.id), .lit (.int .i64 b.kind), va, vw] 109) := ⟨_, rfl⟩
  have E0 : Ext H.n H h0 := hh0 ▸ (Ext.refl _ _).push _ (Nat.le_refl _)
  have A0 : h0.at H.n = some (.cells [.lit (.int .i64 b.id), .lit (.int .i64 b.kind), va, vw] 109) := hh0 ▸ at_push_n _ _
  rw [← hh0]
  clear hh0
  have n1 := E0.1
  have ap0 : Apart v H.n := ho.apart (.inr (Nat.le_refl _))
  have apF : ∀ k, F k → Apart v k := fun k hk => OwnB.apart ho (.inl (hF k hk))
  have o0 := ho.ext E0 (Nat.le_refl _)
  have ha0 := ha.ext E0 (Nat.le_refl _)
  have hw0 := hw.ext E0 (Nat.le_refl _)
  have F0 : Fr h0 v h0 v := Fr.refl
  refine (int2_x b.id o0 (by omega) (by omega)).mono ?_
  rintro r1 h1 ⟨f1, o1⟩
  have F1 := F0.trans f1
  obtain ⟨A1, ap1⟩ := F1.box A0 ap0
  have L1 := ld_at (T := tabOf Tryz.prog NT0) A1
  have l1 := at_lt A1
  have v1 := (o1.toSl (F := fun _ => True) (fun _ h => h.elim) (fun _ _ => trivial)).isSl
  simp only [core, zrA, zrS, zrM, zrL, zrE, reduceCtorEq, zrD, ziE, ziL, ziN, L1, l1, v1]
  refine (int2_x b.kind o1 (by have := F1.1; omega) (by simp only [List.length_append, encN_len]; omega)).mono ?_
  rintro r2 h2 ⟨f2, o2⟩
  have F2 := F1.trans f2
  obtain ⟨A2, ap2⟩ := F2.box A0 ap0
  have L2 := ld_at (T := tabOf Tryz.prog NT0) A2
  have l2 := at_lt A2
  have v2 := (o2.toSl (F := fun _ => True) (fun _ h => h.elim) (fun _ _ => trivial)).isSl
  simp only [core, zrA, zrS, zrM, zrL, zrE, reduceCtorEq, zrD, ziE, ziL, ziN, L2, l2, v2, a1, a2]
  refine (count2_x (b.items.length : Int) o2 (by have := F2.1; omega) (by simp only [List.length_append, encN_len]; omega)).mono ?_
  rintro r3 h3 ⟨f3, o3⟩
  have F3 := F2.trans f3
  obtain ⟨A3, ap3⟩ := F3.box A0 ap0
  have L3 := ld_at (T := tabOf Tryz.prog NT0) A3
  have l3 := at_lt A3
  have v3 := (o3.toSl (F := fun _ => True) (fun _ h => h.elim) (fun _ _ => trivial)).isSl
  simp only [core, zrA, zrS, zrM, zrL, zrE, reduceCtorEq, zrD, ziE, ziL, ziN, L3, l3, v3, a1, a2]
  obtain ⟨p3, hp3⟩ : ∃ p3, p3 = ((xs ++ encN .i64 b.id 8) ++ encN .i64 b.kind 8) ++ encN .u32 (IntKind.u32.wrap (b.items.length : Int)) 4 := ⟨_, rfl⟩
  have q3 : p3.length = xs.length + 20 := by rw [hp3]; simp only [List.length_append, encN_len]
  rw [← hp3] at o3
  refine WB_for b.items.length (fun i t h => (∃ s, OwnB n0 h s (p3 ++ encI (b.items.take i)) ∧ Fr h0 v h s ∧ t.get 0 = s) ∧ t.n = 50 ∧ t.get 3 = .ptr H.n 0 ∧ t.get 23 = va ∧ t.get 24 = .lit (.int .i64 b.items.length) ∧ t.get 25 = .lit (.int .i64 i)) ?_ ?_ _ _ ?_
  · rintro i t h hlt hc ⟨⟨s, ho, fr, g0⟩, hn, g3, g23, g24, g25⟩ ih
    have hws := wrap_succ hlt (by omega)
    have hi := ha0.lift (G := F) fun k hk hkn => ⟨(fr.2 k hkn (apF k hk)).1, hk⟩
    have hld := hi.int (T := tabOf Tryz.prog NT0) (e := 3) (by kernel_rfl) (by kernel_rfl) hlt
    have sv := (ho.toSl (F := fun _ => True) (fun _ h => h.elim) (fun _ _ => trivial)).isSl
    simp only [core, zrA, zrS, zrM, zrL, zrE, reduceCtorEq, zrD, ziE, ziL, ziN, hn, g3, g23, g24, g25, g0, hc, hlt, hws, hld, a1, a2, sv]
    refine (int2_x (b.items.getD i 0) ho (by have := fr.1; omega) (by simp only [List.length_append, q3, encI_len, List.length_take]; omega)).mono ?_
    rintro r h' ⟨f, o⟩
    have v5 := (o.toSl (F := fun _ => True) (fun _ h => h.elim) (fun _ _ => trivial)).isSl
    simp only [core, zrA, zrS, zrM, zrL, zrE, reduceCtorEq, zrD, ziE, ziL, ziN, hn, g3, g23, g24, g25, g0, hc, hlt, hws, a1, a2, w1, w2, v5]
    have hx : b.items[i]? = some (b.items.getD i 0) := by rw [List.getD_eq_getElem?_getD, List.getElem?_eq_getElem hlt]; rfl
    refine ih _ _ ⟨⟨r, by unfold encI at o ⊢; rw [flat_succ _ hx, ← List.append_assoc]; exact o, fr.trans f, by simp only [core, zrA, zrS, zrM, zrL, zrE, reduceCtorEq, zrD, ziE, ziL, ziN, hn, g3, g23, g24, g25]⟩, ?_⟩
    simp only [core, zrA, zrS, zrM, zrL, zrE, reduceCtorEq, zrD, ziE, ziL, ziN, hn, g3, g23, g24, g25]
  · rintro t h hc ⟨⟨s, o4, F4, g0⟩, hn, g3, g23, g24, g25⟩
    rw [List.take_length] at o4
    obtain ⟨A4, ap4⟩ := F4.box A0 ap0
    have L4 := ld_at (T := tabOf Tryz.prog NT0) A4
    have l4 := at_lt A4
    have v4 := (o4.toSl (F := fun _ => True) (fun _ h => h.elim) (fun _ _ => trivial)).isSl
    simp only [core, zrA, zrS, zrM, zrL, zrE, reduceCtorEq, zrD, ziE, ziL, ziN, hn, g3, g23, g24, g25, g0, hc, L4, l4, v4, w1, w2]
    refine (count2_x (b.weights.length : Int) o4 (by have := F4.1; omega) (by simp only [List.length_append, q3, encI_len]; omega)).mono ?_
    rintro r5 h5 ⟨f5, o5⟩
    have F5 := F4.trans f5
    obtain ⟨A5, ap5⟩ := F5.box A0 ap0
    have L5 := ld_at (T := tabOf Tryz.prog NT0) A5
    have l5 := at_lt A5
    have v5 := (o5.toSl (F := fun _ => True) (fun _ h => h.elim) (fun _ _ => trivial)).isSl
    simp only [core, zrA, zrS, zrM, zrL, zrE, reduceCtorEq, zrD, ziE, ziL, ziN, hn, g3, g23, g24, g25, L5, l5, v5, w1, w2]
    obtain ⟨p5, hp5⟩ : ∃ p5, p5 = (p3 ++ encI b.items) ++ encN .u32 (IntKind.u32.wrap (b.weights.length : Int)) 4 := ⟨_, rfl⟩
    have q5 : p5.length = xs.length + 24 + 8 * b.items.length := by rw [hp5]; simp only [List.length_append, encN_len, q3, encI_len]; omega
    rw [← hp5] at o5
    refine WB_for b.weights.length (fun i t h => (∃ s, OwnB n0 h s (p5 ++ encI (b.weights.take i)) ∧ Fr h0 v h s ∧ t.get 0 = s) ∧ t.n = 50 ∧ t.get 39 = vw ∧ t.get 40 = .lit (.int .i64 b.weights.length) ∧ t.get 41 = .lit (.int .i64 i)) ?_ ?_ _ _ ?_
    · rintro i t h hlt hc ⟨⟨s, ho, fr, g0⟩, hn, g39, g40, g41⟩ ih
      have hws := wrap_succ hlt (by omega)
      have hi := hw0.lift (G := F) fun k hk hkn => ⟨(fr.2 k hkn (apF k hk)).1, hk⟩
      have hld := hi.int (T := tabOf Tryz.prog NT0) (e := 3) (by kernel_rfl) (by kernel_rfl) hlt
      have sv := (ho.toSl (F := fun _ => True) (fun _ h => h.elim) (fun _ _ => trivial)).isSl
      simp only [core, zrA, zrS, zrM, zrL, zrE, reduceCtorEq, zrD, ziE, ziL, ziN, hn, g39, g40, g41, g0, hc, hlt, hws, hld, w1, w2, sv]
      refine (int2_x (b.weights.getD i 0) ho (by have := fr.1; omega) (by simp only [List.length_append, q5, encI_len, List.length_take]; omega)).mono ?_
      rintro r h' ⟨f, o⟩
      have v5 := (o.toSl (F := fun _ => True) (fun _ h => h.elim) (fun _ _ => trivial)).isSl
      simp only [core, zrA, zrS, zrM, zrL, zrE, reduceCtorEq, zrD, ziE, ziL, ziN, hn, g39, g40, g41, g0, hc, hlt, hws, a1, a2, w1, w2, v5]
      have hx : b.weights[i]? = some (b.weights.getD i 0) := by rw [List.getD_eq_getElem?_getD, List.getElem?_eq_getElem hlt]; rfl
      refine ih _ _ ⟨⟨r, by unfold encI at o ⊢; rw [flat_succ _ hx, ← List.append_assoc]; exact o, fr.trans f, by simp only [core, zrA, zrS, zrM, zrL, zrE, reduceCtorEq, zrD, ziE, ziL, ziN, hn, g39, g40, g41]⟩, ?_⟩
      simp only [core, zrA, zrS, zrM, zrL, zrE, reduceCtorEq, zrD, ziE, ziL, ziN, hn, g39, g40, g41]
    · rintro t h hc ⟨⟨s, o6, F6, g0⟩, hn, g39, g40, g41⟩
      rw [List.take_length] at o6
      simp only [core, zrA, zrS, zrM, zrL, zrE, reduceCtorEq, zrD, ziE, ziL, ziN, hn, g39, g40, g41, g0, hc, w1, w2]
      refine ⟨(Fr.ext E0).trans F6, ?_⟩
      rw [hp5, hp3] at o6
      unfold encBkt encC
      simpa only [List.append_assoc] using o6
    · refine ⟨⟨r5, by rw [show encI (b.weights.take 0) = [] from rfl, List.append_nil]; exact o5, F5, by simp only [core, zrA, zrS, zrM, zrL, zrE, reduceCtorEq, zrD, ziE, ziL, ziN, hn, g3, g23, g24, g25]⟩, ?_⟩
      simp only [core, zrA, zrS, zrM, zrL, zrE, reduceCtorEq, zrD, ziE, ziL, ziN, hn, g3, g23, g24, g25]
      (repeat' apply And.intro) <;> first | rfl | trivial
  · refine ⟨⟨r3, by rw [show encI (b.items.take 0) = [] from rfl, List.append_nil]; exact o3, F3, by simp only [core, zrA, zrS, zrM, zrL, zrE, reduceCtorEq, zrD, ziE, ziL, ziN]⟩, ?_⟩
    simp only [core, zrA, zrS, zrM, zrL, zrE, reduceCtorEq, zrD, ziE, ziL, ziN]
    (repeat' apply And.intro) <;> first | rfl | trivial
end Go.Proofs.YtfbpjobjdmmgiaaGreat.Ex
end

section

set_option linter.unusedSimpArgs false
set_option linter.unusedVariables false
set_option maxRecDepth 10000
set_option maxHeartbeats 4000000
namespace Go.Proofs.YtfbpjobjdmmgiaaGreat.Ex
open Go
theorem flat_lt {α β : Type} (f : α → List β) {l : List α} {i : Nat} {x : α} (hx : l[i]? = some x) : ((l.take i).flatMap f).length + (f x).length ≤ (l.flatMap f).length := by
  have h1 : l.flatMap f = ((l.take i).flatMap f ++ f x) ++ (l.drop (i + 1)).flatMap f := by
    rw [← flat_succ f hx, ← List.flatMap_append, List.take_append_drop]
  rw [h1, List.length_append, List.length_append]
  omega
def encMap (m : MapD) : List UInt8 := encN .i64 m.epoch 8 ++ (encC m.osds.length ++ (m.osds.flatMap encOsd ++ (encC m.pools.length ++ (m.pools.flatMap encPool ++ (encC m.buckets.length ++ (m.buckets.flatMap encBkt ++ encN .i64 m.leaf 8))))))
theorem encMap_len (m : MapD) : (encMap m).length = 28 + (m.osds.flatMap encOsd).length + (m.pools.flatMap encPool).length + (m.buckets.flatMap encBkt).length := by unfold encMap; simp only [List.length_append, encN_len, encC_len]; omega
theorem putMap_x {F : Nat → Prop} {H : AH} {v : AV} {xs : List UInt8} {n0 : Nat} (m : MapD) {vo vp vb : AV} (hm : MpAt F H m vo vp vb) (hF : ∀ k, F k → k < n0) (ho : OwnB n0 H v xs) (hn0 : n0 ≤ H.n) (so : Sm 40 m.osds) (sp : Sm 32 m.pools) (sb : Sm 64 m.buckets) (hsz : ∀ b ∈ m.buckets, Sm 8 b.items ∧ Sm 8 b.weights) (hl : xs.length + (encMap m).length ≤ 140737488355328) :
    WC Tryz.prog (tabOf Tryz.prog NT0) S0 22 [v, mpV m vo vp vb] H fun r h' => Fr H v h' r ∧ OwnB n0 h' r (xs ++ encMap m) := by
  refine WC_fn Tryz.func22 rfl rfl ?_
  have s1 := (ho.toSl (F := fun _ => True) (fun _ h => h.elim) (fun _ _ => trivial)).isSl
  have e1 := hm.o.isSl
  have e2 := hm.o.lenD
  have e3 := hm.o.one
  have e4 := hm.p.isSl
  have e5 := hm.p.lenD
  have e6 := hm.p.one
  have e7 := hm.b.isSl
  have e8 := hm.b.lenD
  have e9 := hm.b.one
  unfold Sm at so sp sb
  rw [encMap_len] at hl
  simp only [core, zrA, zrS, zrM, zrL, zrE, reduceCtorEq, zrD, ziE, ziL, ziN, Tryz.ntmps22, s1, mpV, e1, e2, e3, e4, e5, e6, e7, e8, e9]
  obtain ⟨h0, hh0⟩ : ∃ h0, h0 = H.push (.cells [.lit (.int .i64 m.epoch), vo, vp, vb, .lit (.int .i64 m.leaf)] 69) := ⟨_, rfl⟩
  have E0 : Ext H.n H h0 := hh0 ▸ (Ext.refl _ _).push _ (Nat.le_refl _)
  have A0 : h0.at H.n = some (.cells [.lit (.int .i64 m.epoch), vo, vp, vb, .lit (.int .i64 m.leaf)] 69) := hh0 ▸ at_push_n _ _
  rw [← hh0]
  clear hh0
  have n1 := E0.1
  have ap0 : Apart v H.n := ho.apart (.inr (Nat.le_refl _))
  have apF : ∀ k, F k → Apart v k := fun k hk => OwnB.apart ho (.inl (hF k hk))
  have o0 := ho.ext E0 (Nat.le_refl _)
  have F0 : Fr h0 v h0 v := Fr.refl
  have ho0 := hm.o.ext E0 (Nat.le_refl _)
  have hp0 := hm.p.ext E0 (Nat.le_refl _)
  have hb0 := hm.b.ext E0 (Nat.le_refl _)
  refine (int2_x m.epoch o0 (by have := F0.1; omega) (by (try simp only [List.length_append, encN_len]); omega)).mono ?_
  rintro r1 h1 ⟨f1, o1⟩
  have F1 := F0.trans f1
  obtain ⟨A1, ap1⟩ := F1.box A0 ap0
  have L1 := ld_at (T := tabOf Tryz.prog NT0) A1
  have l1 := at_lt A1
  have v1 := (o1.toSl (F := fun _ => True) (fun _ h => h.elim) (fun _ _ => trivial)).isSl
  simp only [core, zrA, zrS, zrM, zrL, zrE, reduceCtorEq, zrD, ziE, ziL, ziN, L1, l1, v1, mpV, e1, e2, e3, e4, e5, e6, e7, e8, e9]
  refine (count2_x (m.osds.length : Int) o1 (by have := F1.1; omega) (by (try simp only [List.length_append, encN_len]); omega)).mono ?_
  rintro r2 h2 ⟨f2, o2⟩
  have F2 := F1.trans f2
  obtain ⟨A2, ap2⟩ := F2.box A0 ap0
  have L2 := ld_at (T := tabOf Tryz.prog NT0) A2
  have l2 := at_lt A2
  have v2 := (o2.toSl (F := fun _ => True) (fun _ h => h.elim) (fun _ _ => trivial)).isSl
  simp only [core, zrA, zrS, zrM, zrL, zrE, reduceCtorEq, zrD, ziE, ziL, ziN, L2, l2, v2, mpV, e1, e2, e3, e4, e5, e6, e7, e8, e9]
  obtain ⟨p3, hp3⟩ : ∃ p, p = (xs ++ encN .i64 m.epoch 8) ++ encN .u32 (IntKind.u32.wrap (m.osds.length : Int)) 4 := ⟨_, rfl⟩
  have q3 : p3.length = xs.length + 12 := by rw [hp3]; simp only [List.length_append, encN_len]; try omega
  rw [← hp3] at o2
  refine WB_for m.osds.length (fun i t h => (∃ s, OwnB n0 h s (p3 ++ (m.osds.take i).flatMap encOsd) ∧ Fr h0 v h s ∧ t.get 0 = s) ∧ t.n = 68 ∧ t.get 3 = .ptr H.n 0 ∧ t.get 21 = vo ∧ t.get 22 = .lit (.int .i64 m.osds.length) ∧ t.get 23 = .lit (.int .i64 i)) ?_ ?_ _ _ ?_
  · rintro i t h hlt hc ⟨⟨s, ho, fr, g0⟩, hn, g3, g21, g22, g23⟩ ih
    have hws := wrap_succ hlt (by omega)
    obtain ⟨x, hx⟩ : ∃ x, m.osds[i]? = some x := ⟨_, List.getElem?_eq_getElem hlt⟩
    have hi := ho0.lift (G := F) fun k hk hkn => ⟨(fr.2 k hkn (apF k hk)).1, hk⟩
    obtain ⟨c, hc1, hld, hld0⟩ := hi.at (T := tabOf Tryz.prog NT0) ROsd_z hx
    obtain ⟨rfl, -⟩ := ROsd_is.1 hc1
    have sv := (ho.toSl (F := fun _ => True) (fun _ h => h.elim) (fun _ _ => trivial)).isSl
    have hfl := flat_lt encOsd hx
    simp only [core, zrA, zrS, zrM, zrL, zrE, reduceCtorEq, zrD, ziE, ziL, ziN, hn, g3, g21, g22, g23, g0, hc, hlt, hws, hld, hld0, sv, mpV, e1, e2, e3, e4, e5, e6, e7, e8, e9]
    obtain ⟨h2, hh2⟩ : ∃ h2, h2 = h.push (.cells [.lit (.bool x.ex), .lit (.bool x.up), .lit (.int .i64 x.weight), .lit (.int .i64 x.boot), .lit (.int .i64 x.upFrom), .lit (.int .i64 x.upThru)] 121) := ⟨_, rfl⟩
    have E2 : Ext h.n h h2 := hh2 ▸ (Ext.refl _ _).push _ (Nat.le_refl _)
    rw [← hh2]
    clear hh2
    have hn2 := E2.1
    have hn3 := fr.1
    refine (putOsd_x x (ho.ext E2 (Nat.le_refl _)) (by omega) (by simp only [List.length_append, q3, encOsd_len] at hfl ⊢; omega)).mono ?_
    rintro r h' ⟨f, o⟩
    have v5 := (o.toSl (F := fun _ => True) (fun _ h => h.elim) (fun _ _ => trivial)).isSl
    simp only [core, zrA, zrS, zrM, zrL, zrE, reduceCtorEq, zrD, ziE, ziL, ziN, hn, g3, g21, g22, g23, g0, hc, hlt, hws, v5, mpV, e1, e2, e3, e4, e5, e6, e7, e8, e9]
    refine ih _ _ ⟨⟨r, by rw [flat_succ _ hx, ← List.append_assoc]; exact o, (fr.trans (Fr.ext E2)).trans f, by simp only [core, zrA, zrS, zrM, zrL, zrE, reduceCtorEq, zrD, ziE, ziL, ziN, hn, g3, g21, g22, g23]⟩, ?_⟩
    simp only [core, zrA, zrS, zrM, zrL, zrE, reduceCtorEq, zrD, ziE, ziL, ziN, hn, g3, g21, g22, g23]
  · rintro t h4 hc ⟨⟨r4, o4, F4, g0⟩, hn, g3, g21, g22, g23⟩
    rw [List.take_length] at o4
    obtain ⟨A4, ap4⟩ := F4.box A0 ap0
    have L4 := ld_at (T := tabOf Tryz.prog NT0) A4
    have l4 := at_lt A4
    have v4 := (o4.toSl (F := fun _ => True) (fun _ h => h.elim) (fun _ _ => trivial)).isSl
    simp only [core, zrA, zrS, zrM, zrL, zrE, reduceCtorEq, zrD, ziE, ziL, ziN, hn, g3, g21, g22, g23, g0, hc, L4, l4, v4, mpV, e1, e2, e3, e4, e5, e6, e7, e8, e9]
    refine (count2_x (m.pools.length : Int) o4 (by have := F4.1; omega) (by (try simp only [List.length_append, q3]); omega)).mono ?_
    rintro r5 h5 ⟨f5, o5⟩
    have F5 := F4.trans f5
    obtain ⟨A5, ap5⟩ := F5.box A0 ap0
    have L5 := ld_at (T := tabOf Tryz.prog NT0) A5
    have l5 := at_lt A5
    have v5 := (o5.toSl (F := fun _ => True) (fun _ h => h.elim) (fun _ _ => trivial)).isSl
    simp only [core, zrA, zrS, zrM, zrL, zrE, reduceCtorEq, zrD, ziE, ziL, ziN, hn, g3, g21, g22, g23, L5, l5, v5, mpV, e1, e2, e3, e4, e5, e6, e7, e8, e9]
    obtain ⟨p6, hp6⟩ : ∃ p, p = (p3 ++ m.osds.flatMap encOsd) ++ encN .u32 (IntKind.u32.wrap (m.pools.length : Int)) 4 := ⟨_, rfl⟩
    have q6 : p6.length = xs.length + 16 + (m.osds.flatMap encOsd).length := by rw [hp6]; simp only [List.length_append, encN_len, q3]; try omega
    rw [← hp6] at o5
    refine WB_for m.pools.length (fun i t h => (∃ s, OwnB n0 h s (p6 ++ (m.pools.take i).flatMap encPool) ∧ Fr h0 v h s ∧ t.get 0 = s) ∧ t.n = 68 ∧ t.get 3 = .ptr H.n 0 ∧ t.get 37 = vp ∧ t.get 38 = .lit (.int .i64 m.pools.length) ∧ t.get 39 = .lit (.int .i64 i)) ?_ ?_ _ _ ?_
    · rintro i t h hlt hc ⟨⟨s, ho, fr, g0⟩, hn, g3, g37, g38, g39⟩ ih
      have hws := wrap_succ hlt (by omega)
      obtain ⟨x, hx⟩ : ∃ x, m.pools[i]? = some x := ⟨_, List.getElem?_eq_getElem hlt⟩
      have hi := hp0.lift (G := F) fun k hk hkn => ⟨(fr.2 k hkn (apF k hk)).1, hk⟩
      obtain ⟨c, hc1, hld, hld0⟩ := hi.at (T := tabOf Tryz.prog NT0) RPool_z hx
      obtain ⟨rfl, -⟩ := RPool_is.1 hc1
      have sv := (ho.toSl (F := fun _ => True) (fun _ h => h.elim) (fun _ _ => trivial)).isSl
      have hfl := flat_lt encPool hx
      simp only [core, zrA, zrS, zrM, zrL, zrE, reduceCtorEq, zrD, ziE, ziL, ziN, hn, g3, g37, g38, g39, g0, hc, hlt, hws, hld, hld0, sv, mpV, e1, e2, e3, e4, e5, e6, e7, e8, e9]
      obtain ⟨h2, hh2⟩ : ∃ h2, h2 = h.push (.cells [.lit (.int .i64 x.id), .lit (.int .i64 x.size), .lit (.int .i64 x.min), .lit (.int .i64 x.pgs)] 102) := ⟨_, rfl⟩
      have E2 : Ext h.n h h2 := hh2 ▸ (Ext.refl _ _).push _ (Nat.le_refl _)
      rw [← hh2]
      clear hh2
      have hn2 := E2.1
      have hn3 := fr.1
      refine (putPool_x x (ho.ext E2 (Nat.le_refl _)) (by omega) (by simp only [List.length_append, q6, encPool_len] at hfl ⊢; omega)).mono ?_
      rintro r h' ⟨f, o⟩
      have v5 := (o.toSl (F := fun _ => True) (fun _ h => h.elim) (fun _ _ => trivial)).isSl
      simp only [core, zrA, zrS, zrM, zrL, zrE, reduceCtorEq, zrD, ziE, ziL, ziN, hn, g3, g37, g38, g39, g0, hc, hlt, hws, v5, mpV, e1, e2, e3, e4, e5, e6, e7, e8, e9]
      refine ih _ _ ⟨⟨r, by rw [flat_succ _ hx, ← List.append_assoc]; exact o, (fr.trans (Fr.ext E2)).trans f, by simp only [core, zrA, zrS, zrM, zrL, zrE, reduceCtorEq, zrD, ziE, ziL, ziN, hn, g3, g37, g38, g39]⟩, ?_⟩
      simp only [core, zrA, zrS, zrM, zrL, zrE, reduceCtorEq, zrD, ziE, ziL, ziN, hn, g3, g37, g38, g39]
    · rintro t h7 hc ⟨⟨r7, o7, F7, g0⟩, hn, g3, g37, g38, g39⟩
      rw [List.take_length] at o7
      obtain ⟨A7, ap7⟩ := F7.box A0 ap0
      have L7 := ld_at (T := tabOf Tryz.prog NT0) A7
      have l7 := at_lt A7
      have v7 := (o7.toSl (F := fun _ => True) (fun _ h => h.elim) (fun _ _ => trivial)).isSl
      simp only [core, zrA, zrS, zrM, zrL, zrE, reduceCtorEq, zrD, ziE, ziL, ziN, hn, g3, g37, g38, g39, g0, hc, L7, l7, v7, mpV, e1, e2, e3, e4, e5, e6, e7, e8, e9]
      refine (count2_x (m.buckets.length : Int) o7 (by have := F7.1; omega) (by (try simp only [List.length_append, q6]); omega)).mono ?_
      rintro r8 h8 ⟨f8, o8⟩
      have F8 := F7.trans f8
      obtain ⟨A8, ap8⟩ := F8.box A0 ap0
      have L8 := ld_at (T := tabOf Tryz.prog NT0) A8
      have l8 := at_lt A8
      have v8 := (o8.toSl (F := fun _ => True) (fun _ h => h.elim) (fun _ _ => trivial)).isSl
      simp only [core, zrA, zrS, zrM, zrL, zrE, reduceCtorEq, zrD, ziE, ziL, ziN, hn, g3, g37, g38, g39, L8, l8, v8, mpV, e1, e2, e3, e4, e5, e6, e7, e8, e9]
      obtain ⟨p9, hp9⟩ : ∃ p, p = (p6 ++ m.pools.flatMap encPool) ++ encN .u32 (IntKind.u32.wrap (m.buckets.length : Int)) 4 := ⟨_, rfl⟩
      have q9 : p9.length = xs.length + 20 + (m.osds.flatMap encOsd).length + (m.pools.flatMap encPool).length := by rw [hp9]; simp only [List.length_append, encN_len, q6]; try omega
      rw [← hp9] at o8
      refine WB_for m.buckets.length (fun i t h => (∃ s, OwnB n0 h s (p9 ++ (m.buckets.take i).flatMap encBkt) ∧ Fr h0 v h s ∧ t.get 0 = s) ∧ t.n = 68 ∧ t.get 3 = .ptr H.n 0 ∧ t.get 53 = vb ∧ t.get 54 = .lit (.int .i64 m.buckets.length) ∧ t.get 55 = .lit (.int .i64 i)) ?_ ?_ _ _ ?_
      · rintro i t h hlt hc ⟨⟨s, ho, fr, g0⟩, hn, g3, g53, g54, g55⟩ ih
        have hws := wrap_succ hlt (by omega)
        obtain ⟨x, hx⟩ : ∃ x, m.buckets[i]? = some x := ⟨_, List.getElem?_eq_getElem hlt⟩
        have hi := hb0.lift (G := F) fun k hk hkn => ⟨(fr.2 k hkn (apF k hk)).1, hk⟩
        obtain ⟨c, hc1, hld, hld0⟩ := hi.at (T := tabOf Tryz.prog NT0) RBkt_z hx
        obtain ⟨va, vw, rfl, ha, hw, -, -⟩ := RBkt_is.1 hc1
        have a1 := ha.one
        have w1 := hw.one
        obtain ⟨la, lw⟩ := hsz x (List.mem_of_getElem? hx)
        have sv := (ho.toSl (F := fun _ => True) (fun _ h => h.elim) (fun _ _ => trivial)).isSl
        have hfl := flat_lt encBkt hx
        simp only [core, zrA, zrS, zrM, zrL, zrE, reduceCtorEq, zrD, ziE, ziL, ziN, hn, g3, g53, g54, g55, g0, hc, hlt, hws, a1, w1, hld, hld0, sv, mpV, e1, e2, e3, e4, e5, e6, e7, e8, e9]
        obtain ⟨h2, hh2⟩ : ∃ h2, h2 = h.push (.cells [.lit (.int .i64 x.id), .lit (.int .i64 x.kind), va, vw] 109) := ⟨_, rfl⟩
        have E2 : Ext h.n h h2 := hh2 ▸ (Ext.refl _ _).push _ (Nat.le_refl _)
        rw [← hh2]
        clear hh2
        have hn2 := E2.1
        have hn3 := fr.1
        refine (putBucket_x x (ha.ext E2 (Nat.le_refl _)) (hw.ext E2 (Nat.le_refl _)) hF (ho.ext E2 (Nat.le_refl _)) (by omega) la lw (by simp only [List.length_append, q9, encBkt_len] at hfl ⊢; omega)).mono ?_
        rintro r h' ⟨f, o⟩
        have v5 := (o.toSl (F := fun _ => True) (fun _ h => h.elim) (fun _ _ => trivial)).isSl
        simp only [core, zrA, zrS, zrM, zrL, zrE, reduceCtorEq, zrD, ziE, ziL, ziN, hn, g3, g53, g54, g55, g0, hc, hlt, hws, v5, mpV, e1, e2, e3, e4, e5, e6, e7, e8, e9]
        refine ih _ _ ⟨⟨r, by rw [flat_succ _ hx, ← List.append_assoc]; exact o, (fr.trans (Fr.ext E2)).trans f, by simp only [core, zrA, zrS, zrM, zrL, zrE, reduceCtorEq, zrD, ziE, ziL, ziN, hn, g3, g53, g54, g55]⟩, ?_⟩
        simp only [core, zrA, zrS, zrM, zrL, zrE, reduceCtorEq, zrD, ziE, ziL, ziN, hn, g3, g53, g54, g55]
      · rintro t h10 hc ⟨⟨r10, o10, F10, g0⟩, hn, g3, g53, g54, g55⟩
        rw [List.take_length] at o10
        obtain ⟨A10, ap10⟩ := F10.box A0 ap0
        have L10 := ld_at (T := tabOf Tryz.prog NT0) A10
        have l10 := at_lt A10
        have v10 := (o10.toSl (F := fun _ => True) (fun _ h => h.elim) (fun _ _ => trivial)).isSl
        simp only [core, zrA, zrS, zrM, zrL, zrE, reduceCtorEq, zrD, ziE, ziL, ziN, hn, g3, g53, g54, g55, g0, hc, L10, l10, v10, mpV, e1, e2, e3, e4, e5, e6, e7, e8, e9]
        refine (int2_x m.leaf o10 (by have := F10.1; omega) (by (try simp only [List.length_append, q9]); omega)).mono ?_
        rintro r11 h11 ⟨f11, o11⟩
        have F11 := F10.trans f11
        obtain ⟨A11, ap11⟩ := F11.box A0 ap0
        have L11 := ld_at (T := tabOf Tryz.prog NT0) A11
        have l11 := at_lt A11
        have v11 := (o11.toSl (F := fun _ => True) (fun _ h => h.elim) (fun _ _ => trivial)).isSl
        simp only [core, zrA, zrS, zrM, zrL, zrE, reduceCtorEq, zrD, ziE, ziL, ziN, hn, g3, g53, g54, g55, mpV, e1, e2, e3, e4, e5, e6, e7, e8, e9]
        refine ⟨(Fr.ext E0).trans F11, ?_⟩
        rw [hp9, hp6, hp3] at o11
        unfold encMap
        simp only [encC]
        simpa only [List.append_assoc] using o11
      · refine ⟨⟨r8, by rw [show (m.buckets.take 0).flatMap encBkt = [] from rfl, List.append_nil]; exact o8, F8, by simp only [core, zrA, zrS, zrM, zrL, zrE, reduceCtorEq, zrD, ziE, ziL, ziN, hn, g3, g37, g38, g39]⟩, ?_⟩
        simp only [core, zrA, zrS, zrM, zrL, zrE, reduceCtorEq, zrD, ziE, ziL, ziN, hn, g3, g37, g38, g39]
        (repeat' apply And.intro) <;> first | rfl | trivial
    · refine ⟨⟨r5, by rw [show (m.pools.take 0).flatMap encPool = [] from rfl, List.append_nil]; exact o5, F5, by simp only [core, zrA, zrS, zrM, zrL, zrE, reduceCtorEq, zrD, ziE, ziL, ziN, hn, g3, g21, g22, g23]⟩, ?_⟩
      simp only [core, zrA, zrS, zrM, zrL, zrE, reduceCtorEq, zrD, ziE, ziL, ziN, hn, g3, g21, g22, g23]
      (repeat' apply And.intro) <;> first | rfl | trivial
  · refine ⟨⟨r2, by rw [show (m.osds.take 0).flatMap encOsd = [] from rfl, List.append_nil]; exact o2, F2, by simp only [core, zrA, zrS, zrM, zrL, zrE, reduceCtorEq, zrD, ziE, ziL, ziN, ]⟩, ?_⟩
    simp only [core, zrA, zrS, zrM, zrL, zrE, reduceCtorEq, zrD, ziE, ziL, ziN, ]
    (repeat' apply And.intro) <;> first | rfl | trivial
end Go.Proofs.YtfbpjobjdmmgiaaGreat.Ex
end

section

set_option linter.unusedSimpArgs false
set_option linter.unusedVariables false
set_option maxRecDepth 10000
set_option maxHeartbeats 4000000
namespace Go.Proofs.YtfbpjobjdmmgiaaGreat.Ex
open Go
structure ChD where
  kind : Int
  osd : Int
  value : Int
  pool : PoolD
  bucket : BktD
  deriving DecidableEq
structure IncD where
  epoch : Int
  changes : List ChD
def RCh : Rep ChD := RMap (fun x => (x.kind, x.osd, x.value, x.pool, x.bucket)) (RPair RInt (RPair RInt (RPair RInt (RPair RPool RBkt))))
def RInc : Rep IncD := RMap (fun x => (x.epoch, x.changes)) (RPair RInt (RSl RCh))
theorem RCh_z : RCh.z = 11 := rfl
theorem RCh_is {F : Nat → Prop} {h : AH} {c : List AV} {x : ChD} : RCh.is F h c x ↔ ∃ va vw, c = [.lit (.int .i64 x.kind), .lit (.int .i64 x.osd), .lit (.int .i64 x.value), .lit (.int .i64 x.pool.id), .lit (.int .i64 x.pool.size), .lit (.int .i64 x.pool.min), .lit (.int .i64 x.pool.pgs), .lit (.int .i64 x.bucket.id), .lit (.int .i64 x.bucket.kind), va, vw] ∧ IsSl RInt F h va x.bucket.items ∧ IsSl RInt F h vw x.bucket.weights ∧ (I64 x.kind ∧ I64 x.osd ∧ I64 x.value) ∧ (I64 x.pool.id ∧ I64 x.pool.size ∧ I64 x.pool.min ∧ I64 x.pool.pgs) ∧ I64 x.bucket.id ∧ I64 x.bucket.kind := by
  constructor
  · rintro ⟨_, _, rfl, ⟨rfl, h1⟩, _, _, rfl, ⟨rfl, h2⟩, _, _, rfl, ⟨rfl, h3⟩, _, _, rfl, h4, h5⟩
    obtain ⟨rfl, k4⟩ := RPool_is.1 h4
    obtain ⟨va, vw, rfl, ha, hw, h6⟩ := RBkt_is.1 h5
    exact ⟨va, vw, rfl, ha, hw, ⟨h1, h2, h3⟩, k4, h6⟩
  · rintro ⟨va, vw, rfl, ha, hw, ⟨h1, h2, h3⟩, h4, h6⟩
    exact ⟨_, _, rfl, ⟨rfl, h1⟩, _, _, rfl, ⟨rfl, h2⟩, _, _, rfl, ⟨rfl, h3⟩, _, _, rfl, RPool_is.2 ⟨rfl, h4⟩, RBkt_is.2 ⟨va, vw, rfl, ha, hw, h6⟩⟩
def chV (c : ChD) (va vw : AV) : AV := .agg [.lit (.int .i64 c.kind), .lit (.int .i64 c.osd), .lit (.int .i64 c.value), .lit (.int .i64 c.pool.id), .lit (.int .i64 c.pool.size), .lit (.int .i64 c.pool.min), .lit (.int .i64 c.pool.pgs), .lit (.int .i64 c.bucket.id), .lit (.int .i64 c.bucket.kind), va, vw]
def incV (x : IncD) (vc : AV) : AV := .agg [.lit (.int .i64 x.epoch), vc]
end Go.Proofs.YtfbpjobjdmmgiaaGreat.Ex
end

section

set_option linter.unusedSimpArgs false
set_option linter.unusedVariables false
set_option maxRecDepth 10000
namespace Go.Proofs.YtfbpjobjdmmgiaaGreat.Ex
open Go
section
variable {P : Program} {T : TT} {t : TM} {h : AH} {d : Option Tmp} {ty : TypeId} {ps : String} {af : Array Edge} {g : Option (Nat × Bool)}
/-- Bytes as a text. -/
def aConQ (P : Program) (T : TT) (o : Oper) (t : TM) (h : AH) (src dst : TypeId) (x : Operand) : AR := aConvert P T o t h src dst x
def conM (h : AH) (r : AR) : AV → AR
  | .sl b off len _ => match bytesAt h b off len with
    | some bs => some (.val (.lit (.string ⟨bs.toArray⟩)), h)
    | none => r
  | _ => r
theorem conM_sl {r : AR} {b off len : Nat} {cap : Cap} : conM h r (.sl b off len cap) = match bytesAt h b off len with
    | some bs => some (.val (.lit (.string ⟨bs.toArray⟩)), h)
    | none => r := rfl
theorem a_conM {i : Nat} : aConR Tryz.prog (tabOf Tryz.prog NT0) ⟨d, .convert 56 9 (.tmp i), ty, ps, af, g⟩ t h 56 9 (.tmp i) = conM h (aConQ Tryz.prog (tabOf Tryz.prog NT0) ⟨d, .convert 56 9 (.tmp i), ty, ps, af, g⟩ t h 56 9 (.tmp i)) (t.get i) := by
  unfold conM
  split
  · rename_i b off len cap hv
    split
    · rename_i bs hbs
      have hu1 : und (tabOf Tryz.prog NT0) 56 = some (.slice 5) := by kernel_rfl
      have hu2 : und (tabOf Tryz.prog NT0) 9 = some .string := by kernel_rfl
      have hu3 : und (tabOf Tryz.prog NT0) 5 = some (.int .u8) := by kernel_rfl
      have hl : litOp Tryz.prog ⟨d, .convert 56 9 (.tmp i), ty, ps, af, g⟩ t = none := by
        unfold litOp
        rw [if_neg]
        simp [Op.operands, litAll, ev_tmp, hv, toVal]
      unfold aConR aConvert
      rw [ev_tmp, hv]
      unfold orLit
      rw [hl]
      simp only [aConv1, hu1, hu2, hu3, hbs, Option.map_some, val]
    · rfl
  · rfl
end
def bL (xs : List UInt8) : List AV := xs.map fun n => .lit (.int .u8 n.toNat)
theorem bytesA_bL : ∀ xs : List UInt8, bytesA (bL xs) = some xs
  | [] => rfl
  | x :: xs => by
    have hlt : Nat.blt x.toNat 256 = true := by rw [Nat.blt_eq]; exact UInt8.toNat_lt x
    show (bif Nat.blt x.toNat 256 then (bytesA (bL xs)).map (UInt8.ofNat x.toNat :: ·) else none) = _
    rw [hlt, bytesA_bL xs]
    simp
theorem OwnL.bytes {G : Nat → Prop} {n0 : Nat} {h : AH} {v : AV} {e : TypeId} {xs : List UInt8} (ho : OwnL RByte G n0 h v e xs) (hne : xs ≠ []) :
    ∃ p, v = .sl p 0 xs.length (.un 1) ∧ n0 ≤ p ∧ h.at p = some (.cells (bL xs) e) ∧ bytesAt h p 0 xs.length = some xs := by
  obtain ⟨L, h1, h2⟩ := ho
  have hL : L.flatten = bL xs := by
    obtain ⟨e1, e2⟩ := h2
    have key : ∀ (L : List (List AV)) (xs : List UInt8), L.length = xs.length → (∀ (i : Nat) c x, L[i]? = some c → xs[i]? = some x → RByte.is (fun b => G b ∧ Apart v b) h c x) → L.flatten = bL xs := by
      intro L
      induction L with
      | nil => intro xs hl _; cases xs with | nil => rfl | cons => cases hl
      | cons a r ih =>
        intro xs hl hh
        cases xs with
        | nil => cases hl
        | cons x xs =>
          have i1 := ih xs (by simpa using hl) (fun i c y a b => hh (i + 1) c y (by simpa using a) (by simpa using b))
          obtain rfl := hh 0 a x rfl rfl
          rw [List.flatten_cons, i1]
          rfl
    exact key L xs e1 e2
  have e0 := h2.1
  rcases h1.2 with ⟨rfl, rfl⟩ | ⟨p, rfl, hp, hat⟩
  · exact absurd (List.eq_nil_of_length_eq_zero (by rw [← e0]; rfl)) hne
  · refine ⟨p, by rw [e0]; rfl, hp, by rw [hat, hL], ?_⟩
    unfold bytesAt getR
    rw [hat, hL]
    show (match cut (bL xs) 0 xs.length with | some cs => bytesA cs | none => none) = _
    unfold cut
    rw [if_pos (by unfold bL; simp)]
    show bytesA (((bL xs).drop 0).take xs.length) = _
    rw [List.drop_zero, List.take_of_length_le (by unfold bL; simp), bytesA_bL]
end Go.Proofs.YtfbpjobjdmmgiaaGreat.Ex
end

section

set_option linter.unusedSimpArgs false
set_option linter.unusedVariables false
set_option maxRecDepth 10000
set_option maxHeartbeats 4000000
namespace Go.Proofs.YtfbpjobjdmmgiaaGreat.Ex
open Go
theorem map2_x {F : Nat → Prop} {H : AH} (m : MapD) {vo vp vb : AV} (hm : MpAt F H m vo vp vb) (hF : ∀ k, F k → k < H.n)
    (so : Sm 40 m.osds) (sp : Sm 32 m.pools) (sb : Sm 64 m.buckets) (hsz : ∀ b ∈ m.buckets, Sm 8 b.items ∧ Sm 8 b.weights) (hl : (encMap m).length ≤ 140737488355328) :
    WC Tryz.prog (tabOf Tryz.prog NT0) S0 9 [mpV m vo vp vb] H fun r h' => Ext H.n H h' ∧ OwnB H.n h' r (encMap m) := by
  refine WC_fn Tryz.func9 rfl rfl ?_
  have o1 := hm.o.one
  have o2 := hm.p.one
  have o3 := hm.b.one
  simp only [core, zrA, zrS, zrM, zrL, zrE, reduceCtorEq, zrD, ziE, ziL, ziN, Tryz.ntmps9, mpV, o1, o2, o3]
  obtain ⟨h0, hh0⟩ : ∃ h0, h0 = H.push (.cells [.lit (.int .i64 m.epoch), vo, vp, vb, .lit (.int .i64 m.leaf)] 69) := ⟨_, rfl⟩
  have E0 : Ext H.n H h0 := hh0 ▸ (Ext.refl _ _).push _ (Nat.le_refl _)
  rw [← hh0]
  clear hh0
  have n1 := E0.1
  have on : OwnB H.n h0 (.lit (.slice none 0 0)) [] := OwnL.nil
  refine (putMap_x m (hm.ext E0 (Nat.le_refl _)) hF on n1 so sp sb hsz (by simpa using hl)).mono ?_
  rintro r h1 ⟨f, o⟩
  have v1 := (o.toSl (F := fun _ => True) (fun _ h => h.elim) (fun _ _ => trivial)).isSl
  simp only [core, zrA, zrS, zrM, zrL, zrE, reduceCtorEq, zrD, ziE, ziL, ziN, v1]
  exact ⟨E0.trans (f.toExt on n1), by simpa using o⟩
end Go.Proofs.YtfbpjobjdmmgiaaGreat.Ex
end

section

set_option linter.unusedSimpArgs false
set_option linter.unusedVariables false
set_option maxRecDepth 10000
set_option maxHeartbeats 4000000
namespace Go.Proofs.YtfbpjobjdmmgiaaGreat.Ex
open Go
/-- Elements that hold no addresses. -/
def FlatR {α : Type} (R : Rep α) : Prop := ∀ (F G : Nat → Prop) (h h' : AH) (c : List AV) (x : α), R.is F h c x → R.is G h' c x
theorem flat_int : FlatR RInt := fun F G h h' c x hh => hh
theorem flat_osd : FlatR ROsd := fun F G h h' c x hh => ROsd_is.2 (ROsd_is.1 hh)
theorem flat_pool : FlatR RPool := fun F G h h' c x hh => RPool_is.2 (RPool_is.1 hh)
section
variable {α : Type} {R : Rep α}
/-- A row of the run's own, or an empty one without room. -/
def OwnE (R : Rep α) (n0 : Nat) (h : AH) (d : AV) (e : TypeId) (xs : List α) : Prop := OwnL R (fun _ => False) n0 h d e xs ∨ (xs = [] ∧ ∃ p, n0 ≤ p ∧ d = .sl p 0 0 (.kn 0) ∧ h.at p = some (.cells [] e))
theorem OwnE.ext {n0 m : Nat} {h h' : AH} {d : AV} {e : TypeId} {xs : List α} (hd : OwnE R n0 h d e xs) (he : Ext m h h') (hm : h.n ≤ m) : OwnE R n0 h' d e xs := by
  rcases hd with ho | ⟨rfl, p, hp, rfl, hat⟩
  · exact .inl (ho.ext he hm)
  · exact .inr ⟨rfl, p, hp, rfl, (he.2 _ (by have := at_lt hat; omega)).trans hat⟩
theorem OwnE.toSl {F : Nat → Prop} {n0 : Nat} {h : AH} {d : AV} {e : TypeId} {xs : List α} (hd : OwnE R n0 h d e xs) (h1 : ∀ b, n0 ≤ b → F b) : IsSl R F h d xs := by
  rcases hd with ho | ⟨rfl, p, hp0, rfl, hp⟩
  · exact ho.toSl (fun _ hf => hf.elim) h1
  · exact .mk (L := []) ⟨by simp, .inr ⟨p, 0, _, [], rfl, by unfold getR; rw [hp], by simp [cut]⟩⟩ (fun b off n cap e => by cases e; exact h1 _ hp0) (fun b off n cap e => by cases e; exact Nat.le_refl 0) .nil
theorem OwnE.apart {n0 : Nat} {h : AH} {d : AV} {e : TypeId} {xs : List α} (hd : OwnE R n0 h d e xs) {b : Nat} (hb : h.n ≤ b) : Apart d b := by
  rcases hd with ho | ⟨rfl, p, hp, rfl, hat⟩
  · exact ho.apart hb
  · have := at_lt hat
    exact fun off n cap e => by cases e; omega
theorem OwnE.mono {n0 n1 : Nat} {h : AH} {d : AV} {e : TypeId} {xs : List α} (hd : OwnE R n0 h d e xs) (hn : n1 ≤ n0) : OwnE R n1 h d e xs := by
  rcases hd with ⟨L, h1, h2⟩ | ⟨rfl, p, hp, rfl, hat⟩
  · refine .inl ⟨L, ⟨h1.1, ?_⟩, h2⟩
    rcases h1.2 with hh | ⟨p, rfl, hp, hat⟩
    · exact .inl hh
    · exact .inr ⟨p, rfl, by omega, hat⟩
  · exact .inr ⟨rfl, p, by omega, rfl, hat⟩
/-- What is appended to an empty slice without room. -/
theorem dn_flat {T : TT} {n0 : Nat} {F : Nat → Prop} {H : AH} {v zv : AV} {t e : TypeId} {by' p : Nat} {xs : List α} (hR : FlatR R) (hu : und T t = some (.slice e)) (hz : sizeT T e = some R.z) (hzv : zeroT T e = some zv) (hb : bytesT T e = some by')
    (hzl : zv.cells.length = R.z) (h0 : 0 < R.z) (h200 : R.z ≤ 200) (hv : IsSl R F H v xs) (hn : xs.length ≤ 4611686018427387904) (hl : xs.length * by' ≤ 140737488355328) (hp : H.at p = some (.cells [] e)) (hp0 : n0 ≤ p) (hn0 : n0 ≤ H.n) :
    ∃ s' h', appendA T H t t (.sl p 0 0 (.kn 0)) v = some (s', h') ∧ OwnE R n0 h' s' e xs ∧ Ext H.n H h' := by
  obtain ⟨L, h1, h2, h3, h4⟩ := hv.out
  have e0 := h4.1
  rcases append_fresh (T := T) (h := H) (t := t) (tx := t) (e := e) (M := L) (p := p) (x := v) hu hu hz hzv hb hzl h0 h200 hp h1.src h1.len h4.lens h4.ones (by omega) (by rw [e0]; exact hl) with ⟨hM, ha⟩ | ⟨hM, ha⟩
  · subst hM
    obtain rfl : xs = [] := List.eq_nil_of_length_eq_zero (by rw [← e0]; rfl)
    exact ⟨_, _, ha, .inr ⟨rfl, p, hp0, rfl, hp⟩, Ext.refl _ _⟩
  · refine ⟨_, _, ha, .inl ⟨L, ⟨h4.lens, .inr ⟨H.n, ?_, hn0, at_push_n _ _⟩⟩, ⟨e0, fun i c x a b => hR _ _ _ _ _ _ (h4.2 i c x a b)⟩⟩, (Ext.refl _ _).push _ (Nat.le_refl _)⟩
    rfl
end
theorem cloneI_o {F : Nat → Prop} {H : AH} {v : AV} {xs : List Int} (hv : IsSl RInt F H v xs) (hl : Sm 8 xs) :
    WC Tryz.prog (tabOf Tryz.prog NT0) S0 55 [v] H fun r h' => Ext H.n H h' ∧ OwnE RInt H.n h' r 3 xs := by
  refine WC_fn Tryz.func55 rfl rfl ?_
  unfold Sm at hl
  have s1 := hv.isSl
  have s2 := hv.lenD
  simp only [core, zrA, zrS, zrM, zrL, zrE, reduceCtorEq, zrD, ziE, ziL, ziN, Tryz.ntmps55, s1, s2]
  refine ⟨fun he => ?_, fun he => ?_⟩
  · obtain rfl := hv.empty he
    exact ⟨Ext.refl _ _, .inl OwnL.nil⟩
  · have hv2 : IsSl RInt F (H.push (.cells [] 3)) v xs := hv.ext ((Ext.refl H.n H).push _ (Nat.le_refl _)) (Nat.le_refl _)
    refine WOp_app (dn_flat (n0 := H.n) flat_int (by kernel_rfl) (by kernel_rfl) (zv := .lit (.int .i64 0)) (by kernel_rfl) (by' := 8) (by kernel_rfl) rfl (by decide) (by decide) hv2 (by omega) (by omega) (at_push_n H _) (Nat.le_refl _) (by rw [n_push]; omega)) ?_
    rintro s' h' ⟨e1, e2⟩
    have v1 := (e1.toSl (F := fun _ => True) (fun _ _ => trivial)).isSl
    simp only [core, zrA, zrS, zrM, zrL, zrE, reduceCtorEq, zrD, ziE, ziL, ziN, v1]
    exact ⟨((Ext.refl H.n H).push _ (Nat.le_refl _)).trans (e2.mono (by rw [n_push]; omega)), e1⟩
theorem cloneO_o {F : Nat → Prop} {H : AH} {v : AV} {xs : List OsdD} (hv : IsSl ROsd F H v xs) (hl : Sm 40 xs) :
    WC Tryz.prog (tabOf Tryz.prog NT0) S0 39 [v] H fun r h' => Ext H.n H h' ∧ OwnE ROsd H.n h' r 121 xs := by
  refine WC_fn Tryz.func39 rfl rfl ?_
  unfold Sm at hl
  have s1 := hv.isSl
  have s2 := hv.lenD
  simp only [core, zrA, zrS, zrM, zrL, zrE, reduceCtorEq, zrD, ziE, ziL, ziN, Tryz.ntmps39, s1, s2]
  refine ⟨fun he => ?_, fun he => ?_⟩
  · obtain rfl := hv.empty he
    exact ⟨Ext.refl _ _, .inl OwnL.nil⟩
  · have hv2 : IsSl ROsd F (H.push (.cells [] 121)) v xs := hv.ext ((Ext.refl H.n H).push _ (Nat.le_refl _)) (Nat.le_refl _)
    refine WOp_app (dn_flat (n0 := H.n) flat_osd (by kernel_rfl) (by kernel_rfl) (zv := .agg [.lit (.bool false), .lit (.bool false), .lit (.int .i64 0), .lit (.int .i64 0), .lit (.int .i64 0), .lit (.int .i64 0)]) (by kernel_rfl) (by' := 40) (by kernel_rfl) rfl (by decide) (by decide) hv2 (by omega) (by omega) (at_push_n H _) (Nat.le_refl _) (by rw [n_push]; omega)) ?_
    rintro s' h' ⟨e1, e2⟩
    have v1 := (e1.toSl (F := fun _ => True) (fun _ _ => trivial)).isSl
    simp only [core, zrA, zrS, zrM, zrL, zrE, reduceCtorEq, zrD, ziE, ziL, ziN, v1]
    exact ⟨((Ext.refl H.n H).push _ (Nat.le_refl _)).trans (e2.mono (by rw [n_push]; omega)), e1⟩
theorem cloneP_o {F : Nat → Prop} {H : AH} {v : AV} {xs : List PoolD} (hv : IsSl RPool F H v xs) (hl : Sm 32 xs) :
    WC Tryz.prog (tabOf Tryz.prog NT0) S0 40 [v] H fun r h' => Ext H.n H h' ∧ OwnE RPool H.n h' r 102 xs := by
  refine WC_fn Tryz.func40 rfl rfl ?_
  unfold Sm at hl
  have s1 := hv.isSl
  have s2 := hv.lenD
  simp only [core, zrA, zrS, zrM, zrL, zrE, reduceCtorEq, zrD, ziE, ziL, ziN, Tryz.ntmps40, s1, s2]
  refine ⟨fun he => ?_, fun he => ?_⟩
  · obtain rfl := hv.empty he
    exact ⟨Ext.refl _ _, .inl OwnL.nil⟩
  · have hv2 : IsSl RPool F (H.push (.cells [] 102)) v xs := hv.ext ((Ext.refl H.n H).push _ (Nat.le_refl _)) (Nat.le_refl _)
    refine WOp_app (dn_flat (n0 := H.n) flat_pool (by kernel_rfl) (by kernel_rfl) (zv := .agg [.lit (.int .i64 0), .lit (.int .i64 0), .lit (.int .i64 0), .lit (.int .i64 0)]) (by kernel_rfl) (by' := 32) (by kernel_rfl) rfl (by decide) (by decide) hv2 (by omega) (by omega) (at_push_n H _) (Nat.le_refl _) (by rw [n_push]; omega)) ?_
    rintro s' h' ⟨e1, e2⟩
    have v1 := (e1.toSl (F := fun _ => True) (fun _ _ => trivial)).isSl
    simp only [core, zrA, zrS, zrM, zrL, zrE, reduceCtorEq, zrD, ziE, ziL, ziN, v1]
    exact ⟨((Ext.refl H.n H).push _ (Nat.le_refl _)).trans (e2.mono (by rw [n_push]; omega)), e1⟩
end Go.Proofs.YtfbpjobjdmmgiaaGreat.Ex
end

section

set_option linter.unusedSimpArgs false
set_option linter.unusedVariables false
set_option maxRecDepth 10000
set_option maxHeartbeats 4000000
namespace Go.Proofs.YtfbpjobjdmmgiaaGreat.Ex
open Go
def osd0 : OsdD := ⟨false, false, 0, 0, 0, 0⟩
def osdG (m : MapD) (n : Int) : OsdD := if 0 ≤ n then m.osds.getD n.toNat osd0 else osd0
theorem empty_x {H : AH} : WC Tryz.prog (tabOf Tryz.prog NT0) S0 11 [] H fun r h' => Ext H.n H h' ∧ r = mpV ⟨0, [], [], [], 0⟩ (.lit (.slice none 0 0)) (.lit (.slice none 0 0)) (.lit (.slice none 0 0)) := by
  refine WC_fn Tryz.func11 rfl rfl ?_
  simp only [core, zrA, zrS, zrM, zrL, zrE, reduceCtorEq, zrD, ziE, ziL, ziN, Tryz.ntmps11]
  exact ⟨(Ext.refl _ _).push _ (Nat.le_refl _), rfl⟩
theorem osd_x {F : Nat → Prop} {H : AH} {m : MapD} {vo vp vb : AV} (n : Int) (hm : MpAt F H m vo vp vb) (hl : Sm 40 m.osds) :
    WC Tryz.prog (tabOf Tryz.prog NT0) S0 62 [mpV m vo vp vb, .lit (.int .i64 n)] H fun r h' => Ext H.n H h' ∧ r = osdV (osdG m n) := by
  refine WC_fn Tryz.func62 rfl rfl ?_
  unfold Sm at hl
  have s1 := hm.o.isSl
  have s2 := hm.o.lenD
  have o1 := hm.o.one
  have o2 := hm.p.one
  have o3 := hm.b.one
  have E0 : Ext H.n H ((H.push (.cells [.lit (.int .i64 m.epoch), vo, vp, vb, .lit (.int .i64 m.leaf)] 69)).push (.cells [.lit (.bool false), .lit (.bool false), .lit (.int .i64 0), .lit (.int .i64 0), .lit (.int .i64 0), .lit (.int .i64 0)] 121)) := ((Ext.refl _ _).push _ (Nat.le_refl _)).push _ (by rw [n_push]; omega)
  by_cases h0 : n < 0
  · have hG : osdG m n = osd0 := by unfold osdG; rw [if_neg (by omega)]
    simp only [core, zrA, zrS, zrM, zrL, zrE, reduceCtorEq, zrD, ziE, ziL, ziN, Tryz.ntmps62, mpV, s1, s2, o1, o2, o3, h0]
    rw [hG]
    exact ⟨((Ext.refl _ _).push _ (Nat.le_refl _)).push _ (by rw [n_push]; omega), rfl⟩
  · obtain ⟨k, rfl⟩ : ∃ k : Nat, n = (k : Int) := ⟨n.toNat, by omega⟩
    by_cases h1 : (m.osds.length : Int) ≤ (k : Int)
    · have hG : osdG m (k : Int) = osd0 := by
        unfold osdG
        rw [if_pos (by omega), List.getD_eq_getElem?_getD, List.getElem?_eq_none (by simp only [Int.toNat_natCast]; omega)]
        rfl
      simp only [core, zrA, zrS, zrM, zrL, zrE, reduceCtorEq, zrD, ziE, ziL, ziN, Tryz.ntmps62, mpV, s1, s2, o1, o2, o3, h0, h1]
      rw [hG]
      exact ⟨((Ext.refl _ _).push _ (Nat.le_refl _)).push _ (by rw [n_push]; omega), rfl⟩
    · have hlt : k < m.osds.length := by omega
      obtain ⟨x, hx⟩ : ∃ x, m.osds[k]? = some x := ⟨_, List.getElem?_eq_getElem hlt⟩
      have hG : osdG m (k : Int) = x := by
        unfold osdG
        rw [if_pos (by omega), List.getD_eq_getElem?_getD, Int.toNat_natCast, hx]
        rfl
      obtain ⟨c, hc1, hld, hld0⟩ := hm.o.atE (T := tabOf Tryz.prog NT0) E0 ROsd_z hx
      obtain ⟨rfl, -⟩ := ROsd_is.1 hc1
      simp only [core, zrA, zrS, zrM, zrL, zrE, reduceCtorEq, zrD, ziE, ziL, ziN, Tryz.ntmps62, mpV, s1, s2, o1, o2, o3, h0, h1, hlt, hld, hld0]
      rw [hG]
      exact ⟨((Ext.refl _ _).push _ (Nat.le_refl _)).push _ (by rw [n_push]; omega), rfl⟩
theorem osdR_x {F : Nat → Prop} {H : AH} {m : MapD} {vo vp vb : AV} (n : Int) (hm : MpAt F H m vo vp vb) (hl : Sm 40 m.osds) :
    WC Tryz.prog (tabOf Tryz.prog NT0) S0 43 [mpV m vo vp vb, .lit (.int .i64 n)] H fun r h' => Ext H.n H h' ∧ r = osdV (osdG m n) := by
  refine WC_fn Tryz.func43 rfl rfl ?_
  unfold Sm at hl
  have s1 := hm.o.isSl
  have s2 := hm.o.lenD
  have o1 := hm.o.one
  have o2 := hm.p.one
  have o3 := hm.b.one
  have E0 : Ext H.n H ((H.push (.cells [.lit (.int .i64 m.epoch), vo, vp, vb, .lit (.int .i64 m.leaf)] 69)).push (.cells [.lit (.bool false), .lit (.bool false), .lit (.int .i64 0), .lit (.int .i64 0), .lit (.int .i64 0), .lit (.int .i64 0)] 121)) := ((Ext.refl _ _).push _ (Nat.le_refl _)).push _ (by rw [n_push]; omega)
  by_cases h0 : n < 0
  · have hG : osdG m n = osd0 := by unfold osdG; rw [if_neg (by omega)]
    simp only [core, zrA, zrS, zrM, zrL, zrE, reduceCtorEq, zrD, ziE, ziL, ziN, Tryz.ntmps43, mpV, s1, s2, o1, o2, o3, h0]
    rw [hG]
    exact ⟨((Ext.refl _ _).push _ (Nat.le_refl _)).push _ (by rw [n_push]; omega), rfl⟩
  · obtain ⟨k, rfl⟩ : ∃ k : Nat, n = (k : Int) := ⟨n.toNat, by omega⟩
    by_cases h1 : (m.osds.length : Int) ≤ (k : Int)
    · have hG : osdG m (k : Int) = osd0 := by
        unfold osdG
        rw [if_pos (by omega), List.getD_eq_getElem?_getD, List.getElem?_eq_none (by simp only [Int.toNat_natCast]; omega)]
        rfl
      simp only [core, zrA, zrS, zrM, zrL, zrE, reduceCtorEq, zrD, ziE, ziL, ziN, Tryz.ntmps43, mpV, s1, s2, o1, o2, o3, h0, h1]
      rw [hG]
      exact ⟨((Ext.refl _ _).push _ (Nat.le_refl _)).push _ (by rw [n_push]; omega), rfl⟩
    · have hlt : k < m.osds.length := by omega
      obtain ⟨x, hx⟩ : ∃ x, m.osds[k]? = some x := ⟨_, List.getElem?_eq_getElem hlt⟩
      have hG : osdG m (k : Int) = x := by
        unfold osdG
        rw [if_pos (by omega), List.getD_eq_getElem?_getD, Int.toNat_natCast, hx]
        rfl
      obtain ⟨c, hc1, hld, hld0⟩ := hm.o.atE (T := tabOf Tryz.prog NT0) E0 ROsd_z hx
      obtain ⟨rfl, -⟩ := ROsd_is.1 hc1
      simp only [core, zrA, zrS, zrM, zrL, zrE, reduceCtorEq, zrD, ziE, ziL, ziN, Tryz.ntmps43, mpV, s1, s2, o1, o2, o3, h0, h1, hlt, hld, hld0]
      rw [hG]
      exact ⟨((Ext.refl _ _).push _ (Nat.le_refl _)).push _ (by rw [n_push]; omega), rfl⟩
end Go.Proofs.YtfbpjobjdmmgiaaGreat.Ex
end

section

set_option linter.unusedSimpArgs false
set_option linter.unusedVariables false
set_option maxRecDepth 10000
set_option maxHeartbeats 4000000
namespace Go.Proofs.YtfbpjobjdmmgiaaGreat.Ex
open Go
def mayOs (epoch : Int) (o : OsdD) (kind value : Int) : Int :=
  if kind = 1 then (if value < 1 then 22 else if o.ex = true ∧ value ≤ o.boot then 126 else 0)
  else if kind = 2 then (if o.ex = false then 2 else if o.up = false ∨ value ≠ o.boot then 126 else 0)
  else if kind = 3 then (if o.ex = false then 2 else if value < 0 ∨ 65536 < value then 22 else 0)
  else (if o.ex = false ∨ o.up = false then 2 else if value < 0 ∨ epoch < value then 22 else if value ≤ o.upThru then 126 else 0)
def mayOsdF (m : MapD) (c : ChD) : Int := mayOs m.epoch (osdG m c.osd) c.kind c.value
theorem mayOsd_x {F : Nat → Prop} {H : AH} {m : MapD} {vo vp vb va vw : AV} (c : ChD) (hm : MpAt F H m vo vp vb) (hl : Sm 40 m.osds) (a1 : va.one = true) (w1 : vw.one = true) :
    WC Tryz.prog (tabOf Tryz.prog NT0) S0 46 [mpV m vo vp vb, chV c va vw] H fun r h' => Ext H.n H h' ∧ r = .lit (.int .i64 (mayOsdF m c)) := by
  refine WC_fn Tryz.func46 rfl rfl ?_
  have o1 := hm.o.one
  have o2 := hm.p.one
  have o3 := hm.b.one
  simp only [core, zrA, zrS, zrM, zrL, zrE, reduceCtorEq, zrD, ziE, ziL, ziN, Tryz.ntmps46, mpV, chV, o1, o2, o3, a1, w1]
  obtain ⟨h0, hh0⟩ : ∃ h0, h0 = (H.push (.cells [.lit (.int .i64 m.epoch), vo, vp, vb, .lit (.int .i64 m.leaf)] 69)).push (.cells [.lit (.int .i64 c.kind), .lit (.int .i64 c.osd), .lit (.int .i64 c.value), .lit (.int .i64 c.pool.id), .lit (.int .i64 c.pool.size), .lit (.int .i64 c.pool.min), .lit (.int .i64 c.pool.pgs), .lit (.int .i64 c.bucket.id), .lit (.int .i64 c.bucket.kind), va, vw] 111) := ⟨_, rfl⟩
  have E0 : Ext H.n H h0 := hh0 ▸ ((Ext.refl _ _).push _ (Nat.le_refl _)).push _ (by rw [n_push]; omega)
  have A1 : h0.at H.n = some (.cells [.lit (.int .i64 m.epoch), vo, vp, vb, .lit (.int .i64 m.leaf)] 69) := hh0 ▸ (at_push_lt _ (by rw [n_push]; omega)).trans (at_push_n _ _)
  have A2 : h0.at (H.n + 1) = some (.cells [.lit (.int .i64 c.kind), .lit (.int .i64 c.osd), .lit (.int .i64 c.value), .lit (.int .i64 c.pool.id), .lit (.int .i64 c.pool.size), .lit (.int .i64 c.pool.min), .lit (.int .i64 c.pool.pgs), .lit (.int .i64 c.bucket.id), .lit (.int .i64 c.bucket.kind), va, vw] 111) := hh0 ▸ at_push_n _ _
  rw [← hh0]
  clear hh0
  refine (osd_x c.osd (hm.ext E0 (Nat.le_refl _)) hl).mono ?_
  rintro r h ⟨e, rfl⟩
  have B1 := (e.2 _ (at_lt A1)).trans A1
  have B2 := (e.2 _ (at_lt A2)).trans A2
  have EH : Ext H.n H h := E0.trans (e.mono E0.1)
  have LB1 := ld_at (T := tabOf Tryz.prog NT0) B1
  have LB2 := ld_at (T := tabOf Tryz.prog NT0) B2
  have lb1 := at_lt B1
  have lb2 := at_lt B2
  unfold mayOsdF
  obtain ⟨o, ho⟩ : ∃ o, o = osdG m c.osd := ⟨_, rfl⟩
  rw [← ho]
  clear ho A1 A2 e
  obtain ⟨ex, up, w, b, uf, ut⟩ := o
  simp only [osdV]
  by_cases k1 : c.kind = 1
  · have k1e : (c.kind == 1) = true := by simp [k1]
    have k1n : (c.kind != 1) = false := by simp [k1]
    by_cases c1 : c.value < 1
    · simp only [core, zrA, zrS, zrM, zrL, zrE, reduceCtorEq, zrD, ziE, ziL, ziN, LB1, LB2, lb1, lb2, k1e, k1n, c1]
      exact ⟨EH.push _ EH.1, by simp [mayOs, k1, k1e, k1n, c1]⟩
    · cases ex with
      | false =>
        simp only [core, zrA, zrS, zrM, zrL, zrE, reduceCtorEq, zrD, ziE, ziL, ziN, LB1, LB2, lb1, lb2, k1e, k1n, c1]
        exact ⟨EH.push _ EH.1, by simp [mayOs, k1, k1e, k1n, c1]⟩
      | true =>
        by_cases c2 : c.value ≤ b
        · simp only [core, zrA, zrS, zrM, zrL, zrE, reduceCtorEq, zrD, ziE, ziL, ziN, LB1, LB2, lb1, lb2, k1e, k1n, c1, c2]
          exact ⟨EH.push _ EH.1, by simp [mayOs, k1, k1e, k1n, c1, c2]⟩
        · simp only [core, zrA, zrS, zrM, zrL, zrE, reduceCtorEq, zrD, ziE, ziL, ziN, LB1, LB2, lb1, lb2, k1e, k1n, c1, c2]
          exact ⟨EH.push _ EH.1, by simp [mayOs, k1, k1e, k1n, c1, c2]⟩
  · have k1e : (c.kind == 1) = false := by simp [k1]
    have k1n : (c.kind != 1) = true := by simp [k1]
    by_cases k2 : c.kind = 2
    · have k2e : (c.kind == 2) = true := by simp [k2]
      have k2n : (c.kind != 2) = false := by simp [k2]
      cases ex with
      | false =>
        simp only [core, zrA, zrS, zrM, zrL, zrE, reduceCtorEq, zrD, ziE, ziL, ziN, LB1, LB2, lb1, lb2, k1e, k1n, k2e, k2n]
        exact ⟨EH.push _ EH.1, by simp [mayOs, k1, k1e, k1n, k2, k2e, k2n]⟩
      | true =>
        cases up with
        | false =>
          simp only [core, zrA, zrS, zrM, zrL, zrE, reduceCtorEq, zrD, ziE, ziL, ziN, LB1, LB2, lb1, lb2, k1e, k1n, k2e, k2n]
          exact ⟨EH.push _ EH.1, by simp [mayOs, k1, k1e, k1n, k2, k2e, k2n]⟩
        | true =>
          by_cases c2 : c.value = b
          · have c2e : (c.value == b) = true := by simp [c2]
            have c2n : (c.value != b) = false := by simp [c2]
            simp only [core, zrA, zrS, zrM, zrL, zrE, reduceCtorEq, zrD, ziE, ziL, ziN, LB1, LB2, lb1, lb2, k1e, k1n, k2e, k2n, c2e, c2n]
            exact ⟨EH.push _ EH.1, by simp [mayOs, k1, k1e, k1n, k2, k2e, k2n, c2, c2e, c2n]⟩
          · have c2e : (c.value == b) = false := by simp [c2]
            have c2n : (c.value != b) = true := by simp [c2]
            simp only [core, zrA, zrS, zrM, zrL, zrE, reduceCtorEq, zrD, ziE, ziL, ziN, LB1, LB2, lb1, lb2, k1e, k1n, k2e, k2n, c2e, c2n]
            exact ⟨EH.push _ EH.1, by simp [mayOs, k1, k1e, k1n, k2, k2e, k2n, c2, c2e, c2n]⟩
    · have k2e : (c.kind == 2) = false := by simp [k2]
      have k2n : (c.kind != 2) = true := by simp [k2]
      by_cases k3 : c.kind = 3
      · have k3e : (c.kind == 3) = true := by simp [k3]
        have k3n : (c.kind != 3) = false := by simp [k3]
        cases ex with
        | false =>
          simp only [core, zrA, zrS, zrM, zrL, zrE, reduceCtorEq, zrD, ziE, ziL, ziN, LB1, LB2, lb1, lb2, k1e, k1n, k2e, k2n, k3e, k3n]
          exact ⟨EH.push _ EH.1, by simp [mayOs, k1, k1e, k1n, k2, k2e, k2n, k3, k3e, k3n]⟩
        | true =>
          by_cases c1 : c.value < 0
          · simp only [core, zrA, zrS, zrM, zrL, zrE, reduceCtorEq, zrD, ziE, ziL, ziN, LB1, LB2, lb1, lb2, k1e, k1n, k2e, k2n, k3e, k3n, c1]
            exact ⟨EH.push _ EH.1, by simp [mayOs, k1, k1e, k1n, k2, k2e, k2n, k3, k3e, k3n, c1]⟩
          · by_cases c2 : 65536 < c.value
            · simp only [core, zrA, zrS, zrM, zrL, zrE, reduceCtorEq, zrD, ziE, ziL, ziN, LB1, LB2, lb1, lb2, k1e, k1n, k2e, k2n, k3e, k3n, c1, c2]
              exact ⟨EH.push _ EH.1, by simp [mayOs, k1, k1e, k1n, k2, k2e, k2n, k3, k3e, k3n, c1, c2]⟩
            · simp only [core, zrA, zrS, zrM, zrL, zrE, reduceCtorEq, zrD, ziE, ziL, ziN, LB1, LB2, lb1, lb2, k1e, k1n, k2e, k2n, k3e, k3n, c1, c2]
              exact ⟨EH.push _ EH.1, by simp [mayOs, k1, k1e, k1n, k2, k2e, k2n, k3, k3e, k3n, c1, c2]⟩
      · have k3e : (c.kind == 3) = false := by simp [k3]
        have k3n : (c.kind != 3) = true := by simp [k3]
        cases ex with
        | false =>
          simp only [core, zrA, zrS, zrM, zrL, zrE, reduceCtorEq, zrD, ziE, ziL, ziN, LB1, LB2, lb1, lb2, k1e, k1n, k2e, k2n, k3e, k3n]
          exact ⟨EH.push _ EH.1, by simp [mayOs, k1, k1e, k1n, k2, k2e, k2n, k3, k3e, k3n]⟩
        | true =>
          cases up with
          | false =>
            simp only [core, zrA, zrS, zrM, zrL, zrE, reduceCtorEq, zrD, ziE, ziL, ziN, LB1, LB2, lb1, lb2, k1e, k1n, k2e, k2n, k3e, k3n]
            exact ⟨EH.push _ EH.1, by simp [mayOs, k1, k1e, k1n, k2, k2e, k2n, k3, k3e, k3n]⟩
          | true =>
            by_cases c1 : c.value < 0
            · simp only [core, zrA, zrS, zrM, zrL, zrE, reduceCtorEq, zrD, ziE, ziL, ziN, LB1, LB2, lb1, lb2, k1e, k1n, k2e, k2n, k3e, k3n, c1]
              exact ⟨EH.push _ EH.1, by simp [mayOs, k1, k1e, k1n, k2, k2e, k2n, k3, k3e, k3n, c1]⟩
            · by_cases c2 : m.epoch < c.value
              · simp only [core, zrA, zrS, zrM, zrL, zrE, reduceCtorEq, zrD, ziE, ziL, ziN, LB1, LB2, lb1, lb2, k1e, k1n, k2e, k2n, k3e, k3n, c1, c2]
                exact ⟨EH.push _ EH.1, by simp [mayOs, k1, k1e, k1n, k2, k2e, k2n, k3, k3e, k3n, c1, c2]⟩
              · by_cases c3 : c.value ≤ ut
                · simp only [core, zrA, zrS, zrM, zrL, zrE, reduceCtorEq, zrD, ziE, ziL, ziN, LB1, LB2, lb1, lb2, k1e, k1n, k2e, k2n, k3e, k3n, c1, c2, c3]
                  exact ⟨EH.push _ EH.1, by simp [mayOs, k1, k1e, k1n, k2, k2e, k2n, k3, k3e, k3n, c1, c2, c3]⟩
                · simp only [core, zrA, zrS, zrM, zrL, zrE, reduceCtorEq, zrD, ziE, ziL, ziN, LB1, LB2, lb1, lb2, k1e, k1n, k2e, k2n, k3e, k3n, c1, c2, c3]
                  exact ⟨EH.push _ EH.1, by simp [mayOs, k1, k1e, k1n, k2, k2e, k2n, k3, k3e, k3n, c1, c2, c3]⟩
end Go.Proofs.YtfbpjobjdmmgiaaGreat.Ex
end

section

set_option linter.unusedSimpArgs false
set_option linter.unusedVariables false
set_option maxRecDepth 10000
set_option maxHeartbeats 4000000
namespace Go.Proofs.YtfbpjobjdmmgiaaGreat.Ex
open Go
theorem OwnE.put {α : Type} {R : Rep α} {n0 p : Nat} {h : AH} {d : AV} {e : TypeId} {xs : List α} {x : AB} (hd : OwnE R n0 h d e xs) (hp : p < n0) : OwnE R n0 (h.put p x) d e xs := by
  rcases hd with ho | ⟨rfl, q, hq, rfl, hat⟩
  · refine .inl (ho.lift (fun b off n cap ev => ?_) (fun b hb => hb.elim))
    obtain ⟨L, h1, h2⟩ := ho
    rcases h1.2 with ⟨hh, _⟩ | ⟨q, hh, hq, hat⟩
    · rw [hh] at ev; cases ev
    · rw [hh] at ev
      cases ev
      exact at_put_ne _ (by omega)
  · exact .inr ⟨rfl, q, hq, rfl, (at_put_ne _ (by omega)).trans hat⟩
theorem bkt_x {F : Nat → Prop} {H : AH} {va vw : AV} (x : BktD) (ha : IsSl RInt F H va x.items) (hw : IsSl RInt F H vw x.weights) (la : Sm 8 x.items) (lw : Sm 8 x.weights) :
    WC Tryz.prog (tabOf Tryz.prog NT0) S0 41 [bktV x va vw] H fun r h' => Ext H.n H h' ∧ ∃ ra rw1, r = bktV x ra rw1 ∧ OwnE RInt H.n h' ra 3 x.items ∧ OwnE RInt H.n h' rw1 3 x.weights := by
  refine WC_fn Tryz.func41 rfl rfl ?_
  have a1 := ha.one
  have w1 := hw.one
  have a2 := ha.isSl
  have w2 := hw.isSl
  simp only [core, zrA, zrS, zrM, zrL, zrE, reduceCtorEq, zrD, ziE, ziL, ziN, Tryz.ntmps41, bktV, a1, w1]
  obtain ⟨hp, hhp⟩ : ∃ hp, hp = (H.push (.cells [.lit (.int .i64 x.id), .lit (.int .i64 x.kind), va, vw] 109)).push (.cells [.lit (.int .i64 0), .lit (.int .i64 0), .lit (.slice none 0 0), .lit (.slice none 0 0)] 109) := ⟨_, rfl⟩
  have EP : Ext H.n H hp := hhp ▸ ((Ext.refl _ _).push _ (Nat.le_refl _)).push _ (by rw [n_push]; omega)
  have P0 : hp.at H.n = some (.cells [.lit (.int .i64 x.id), .lit (.int .i64 x.kind), va, vw] 109) := hhp ▸ (at_push_lt _ (by rw [n_push]; omega)).trans (at_push_n _ _)
  have Z0 : hp.at (H.n + 1) = some (.cells [.lit (.int .i64 0), .lit (.int .i64 0), .lit (.slice none 0 0), .lit (.slice none 0 0)] 109) := hhp ▸ at_push_n _ _
  have nP : hp.n = H.n + 2 := by rw [hhp, n_push, n_push]
  have LP0 := ld_at (T := tabOf Tryz.prog NT0) P0
  rw [← hhp]
  clear hhp
  rw [WB_regionD [0, 1, 3, 4, 2, 6, 5, 7, 8, 9] 632895786129742360360258634752 (by kernel_rfl)]
  repeat ((with_reducible refine WDM_cons ?_; simp only [dw1]; try simp only [dw2, zrA, zrM, zrR, zrO, zrE]); simp only [core, zrA, zrS, zrM, zrL, zrE, reduceCtorEq, zrD, ziE, ziL, ziN, cored, LP0, a2, w2])
  refine (cloneI_o (ha.ext EP (Nat.le_refl _)) la).mono ?_
  rintro ra h3 ⟨e3, ra1⟩
  have P3 := (e3.2 _ (at_lt P0)).trans P0
  have Z3 := (e3.2 _ (at_lt Z0)).trans Z0
  have LP3 := ld_at (T := tabOf Tryz.prog NT0) P3
  have E3 := EP.step e3
  have r1 := (ra1.toSl (F := fun _ => True) (fun _ _ => trivial)).isSl
  have r2 := (ra1.toSl (F := fun _ => True) (fun _ _ => trivial)).one
  repeat ((with_reducible refine WDM_cons ?_; simp only [dw1]; try simp only [dw2, zrA, zrM, zrR, zrO, zrE]); simp only [core, zrA, zrS, zrM, zrL, zrE, reduceCtorEq, zrD, ziE, ziL, ziN, cored, LP3, a2, w2, r1, r2])
  refine (cloneI_o (hw.ext E3 (Nat.le_refl _)) lw).mono ?_
  rintro rw1 h4 ⟨e4, rw2⟩
  have P4 := (e4.2 _ (at_lt P3)).trans P3
  have Z4 := (e4.2 _ (at_lt Z3)).trans Z3
  have LP4 := ld_at (T := tabOf Tryz.prog NT0) P4
  have E4 := E3.step e4
  have l4 := at_lt P4
  have l6 := at_lt Z4
  have l3 : hp.n ≤ h3.n := e3.1
  have l5 : h3.n ≤ h4.n := e4.1
  have q1 := (rw2.toSl (F := fun _ => True) (fun _ _ => trivial)).isSl
  have q2 := (rw2.toSl (F := fun _ => True) (fun _ _ => trivial)).one
  have hne : ¬ H.n = H.n + 1 := by omega
  repeat ((with_reducible refine WDM_cons ?_; simp only [dw1]; try simp only [dw2, zrA, zrM, zrR, zrO, zrE]); simp only [core, zrA, zrS, zrM, zrL, zrE, reduceCtorEq, zrD, ziE, ziL, ziN, cored, LP4, P4, l4, r1, r2, q1, q2, a2, w2, Z4, l6, hne])
  refine ⟨((E4.put _ (by omega)).put _ (by omega)).put _ (by omega), _, _, rfl, ?_, ?_⟩
  · exact ((((ra1.ext e4 (Nat.le_refl _)).put (by omega)).put (by omega)).put (by omega)).mono (by omega)
  · exact (((rw2.put (by omega)).put (by omega)).put (by omega)).mono (by omega)
end Go.Proofs.YtfbpjobjdmmgiaaGreat.Ex
end

section

set_option linter.unusedSimpArgs false
set_option linter.unusedVariables false
set_option maxRecDepth 10000
set_option maxHeartbeats 4000000
namespace Go.Proofs.YtfbpjobjdmmgiaaGreat.Ex
open Go
end Go.Proofs.YtfbpjobjdmmgiaaGreat.Ex
end

section

set_option linter.unusedSimpArgs false
set_option linter.unusedVariables false
set_option maxRecDepth 10000
set_option maxHeartbeats 4000000
namespace Go.Proofs.YtfbpjobjdmmgiaaGreat.Ex
open Go
def fitF (m : MapD) (b : BktD) (id : Int) : Bool := if 0 ≤ id then decide (id < 8) else (bucketF m id).isSome && decide ((bucketG m id).kind < b.kind)
theorem may_x {F : Nat → Prop} {H : AH} {m : MapD} {vo vp vb va vw : AV} {b : BktD} (id : Int) (hm : MpAt F H m vo vp vb) (hl : Sm 64 m.buckets) (hbs : ∀ b ∈ m.buckets, Sm 8 b.items ∧ Sm 8 b.weights) (hva : va.one = true) (hvw : vw.one = true) :
    WC Tryz.prog (tabOf Tryz.prog NT0) S0 76 [mpV m vo vp vb, bktV b va vw, .lit (.int .i64 id)] H fun r h' => Ext H.n H h' ∧ r = .lit (.bool (fitF m b id)) := by
  refine WC_fn Tryz.func76 rfl rfl ?_
  have o1 := hm.o.one
  have o2 := hm.p.one
  have o3 := hm.b.one
  simp only [core, zrA, zrS, zrM, zrL, zrE, reduceCtorEq, zrD, ziE, ziL, ziN, Tryz.ntmps76, mpV, bktV, o1, o2, o3, hva, hvw]
  obtain ⟨h1, hh1⟩ : ∃ h1, h1 = (H.push (.cells [.lit (.int .i64 m.epoch), vo, vp, vb, .lit (.int .i64 m.leaf)] 69)).push (.cells [.lit (.int .i64 b.id), .lit (.int .i64 b.kind), va, vw] 109) := ⟨_, rfl⟩
  have E1 : Ext H.n H h1 := hh1 ▸ ((Ext.refl _ _).push _ (Nat.le_refl _)).push _ (by rw [n_push]; omega)
  have n1 : h1.n = H.n + 2 := by rw [hh1, n_push, n_push]
  have A1 : h1.at (H.n + 1) = some (.cells [.lit (.int .i64 b.id), .lit (.int .i64 b.kind), va, vw] 109) := by
    rw [hh1]
    have := at_push_n (H.push (.cells [.lit (.int .i64 m.epoch), vo, vp, vb, .lit (.int .i64 m.leaf)] 69)) (.cells [.lit (.int .i64 b.id), .lit (.int .i64 b.kind), va, vw] 109)
    rw [n_push] at this
    exact this
  try rw [← hh1]
  clear hh1
  by_cases h0 : 0 ≤ id
  · simp only [core, zrA, zrS, zrM, zrL, zrE, reduceCtorEq, zrD, ziE, ziL, ziN, h0]
    refine ⟨E1, ?_⟩
    unfold fitF
    rw [if_pos h0]
  · simp only [core, zrA, zrS, zrM, zrL, zrE, reduceCtorEq, zrD, ziE, ziL, ziN, h0]
    refine (bucket_x id (hm.ext E1 (Nat.le_refl _)) hl hbs).mono ?_
    rintro _ h2 ⟨e2, v1, v2, rfl, b1, b2⟩
    have o4 := b1.one
    have o5 := b2.one
    have E2 := E1.step e2
    have A2 := (e2.2 _ (by omega)).trans A1
    have l2 := at_lt A2
    have LA2 := ld_at (T := tabOf Tryz.prog NT0) A2
    simp only [core, zrA, zrS, zrM, zrL, zrE, reduceCtorEq, zrD, ziE, ziL, ziN, bktV, o4, o5, A2, l2, LA2]
    obtain ⟨h3, hh3⟩ : ∃ h3, h3 = h2.push (.cells [.lit (.int .i64 (bucketG m id).id), .lit (.int .i64 (bucketG m id).kind), v1, v2] 109) := ⟨_, rfl⟩
    have e3 : Ext h2.n h2 h3 := hh3 ▸ (Ext.refl _ _).push _ (Nat.le_refl _)
    have B3 : h3.at h2.n = some (.cells [.lit (.int .i64 (bucketG m id).id), .lit (.int .i64 (bucketG m id).kind), v1, v2] 109) := hh3 ▸ at_push_n _ _
    rw [← hh3]
    clear hh3
    have E3 := E2.step e3
    have A3 := (e3.2 _ l2).trans A2
    have l3 := at_lt A3
    have LA3 := ld_at (T := tabOf Tryz.prog NT0) A3
    have LB3 := ld_at (T := tabOf Tryz.prog NT0) B3
    have b3 := at_lt B3
    cases hb : (bucketF m id).isSome with
    | false =>
      simp only [core, zrA, zrS, zrM, zrL, zrE, reduceCtorEq, zrD, ziE, ziL, ziN]
      refine ⟨E3, ?_⟩
      unfold fitF
      rw [if_neg h0, hb]
      rfl
    | true =>
      simp only [core, zrA, zrS, zrM, zrL, zrE, reduceCtorEq, zrD, ziE, ziL, ziN, LA3, LB3, l3, b3]
      refine ⟨E3, ?_⟩
      unfold fitF
      rw [if_neg h0, hb]
      rfl
end Go.Proofs.YtfbpjobjdmmgiaaGreat.Ex
end

section

set_option linter.unusedSimpArgs false
set_option linter.unusedVariables false
set_option maxRecDepth 10000
set_option maxHeartbeats 4000000
namespace Go.Proofs.YtfbpjobjdmmgiaaGreat.Ex
open Go
/-- A map whose keys are these, each with 1. -/
def Ones (es : List AE) (ks : List Int) : Prop := es.map (fun e => (e.key, e.val)) = ks.map (fun k => (.int .i64 k, .lit (.int .i64 1)))
theorem findA_int (d : Int) : ∀ (ks : List Int) (es : List AE) (i : Nat), Ones es ks → (d ∉ ks → findA (.int .i64) (.int .i64 d) es i = some none) ∧ (d ∈ ks → ∃ j, j < es.length ∧ findA (.int .i64) (.int .i64 d) es i = some (some (i + j, .lit (.int .i64 1))) ∧ ∀ x, findA (.int .i64) (.int .i64 d) (es.modify j fun e => { e with key := .int .i64 d, val := x }) i = some (some (i + j, x)))
  | [], es, i, h => by
    have : es = [] := by unfold Ones at h; simpa using h
    subst this
    exact ⟨fun _ => rfl, fun h => by cases h⟩
  | k :: ks, es, i, h => by
    cases es with
    | nil => unfold Ones at h; simp at h
    | cons e es =>
    unfold Ones at h
    simp only [List.map_cons, List.cons.injEq, Prod.mk.injEq] at h
    obtain ⟨⟨h1, h2⟩, h3⟩ := h
    obtain ⟨r1, r2⟩ := findA_int d ks es (i + 1) h3
    have hs : Instr.sameNow (.int .i64) (.int .i64 d) e.key = some (d == k) := by rw [h1]; rfl
    have hd : Instr.sameNow (.int .i64) (.int .i64 d) (.int .i64 d) = some (d == d) := rfl
    by_cases hk : d = k
    · subst hk
      refine ⟨fun hn => absurd (List.mem_cons_self ..) hn, fun _ => ⟨0, by simp, ?_, fun x => ?_⟩⟩
      · unfold findA
        rw [hs, beq_self_eq_true, h2]
        rfl
      · simp only [List.modify_zero_cons]
        unfold findA
        simp only [hd, beq_self_eq_true]
        rfl
    · have hkb : (d == k) = false := by simpa using hk
      refine ⟨fun hn => ?_, fun hm => ?_⟩
      · unfold findA
        rw [hs, hkb]
        exact r1 (fun hh => hn (List.mem_cons_of_mem _ hh))
      · obtain ⟨j, hj, q1, q2⟩ := r2 (by rcases List.mem_cons.1 hm with h | h; exact absurd h hk; exact h)
        refine ⟨j + 1, by simpa using hj, ?_, fun x => ?_⟩
        · unfold findA
          rw [hs, hkb]
          simp only
          rw [q1]
          congr 3
          omega
        · rw [List.modify_succ_cons]
          unfold findA
          rw [hs, hkb]
          simp only
          rw [q2 x]
          congr 3
          omega
theorem Ones.snoc {es : List AE} {ks : List Int} {k : Int} {c : Nat} (h : Ones es ks) : Ones (es ++ [{ key := .int .i64 k, val := .lit (.int .i64 1), born := c }]) (ks ++ [k]) := by
  unfold Ones at *
  rw [List.map_append, List.map_append, h]
  rfl
section
variable {P : Program} {T : TT} {t : TM} {h : AH} {d : Option Tmp} {ty e : TypeId} {ps : String} {af : Array Edge} {g : Option (Nat × Bool)}
theorem a_mkm : aop P T ⟨d, .makeMap e none, ty, ps, af, g⟩ t h = some (.val (.mp h.n), h.push (.map [] 0)) := rfl
theorem a_look {m k : Operand} {ok : Bool} : aop P T ⟨d, .lookup e m k ok, ty, ps, af, g⟩ t h = aLookup T t h e m k ok := rfl
theorem a_mupd {m k x : Operand} : aop P T ⟨d, .mapUpdate e m k x, ty, ps, af, g⟩ t h = aUpdate T t h e m k x := rfl
end
section
variable {T : TT} {t kt et : TypeId} {h : AH} {b : Nat} {es : List AE} {c : Nat} {ks : List Int} {d : Int}
theorem findT_int (hu : und T t = some (.map kt et)) (hi : und T kt = some (.int .i64)) : findT T t (.int .i64 d) es = findA (.int .i64) (.int .i64 d) es 0 := by
  unfold findT
  rw [hu]
  simp only
  unfold und at hi
  cases hT : T kt with
  | none => rw [hT] at hi; cases hi
  | some i =>
    rw [hT] at hi
    simp only [Option.map_some, Option.some.injEq] at hi
    simp only [hi]
    rfl
theorem look_new (hu : und T t = some (.map kt et)) (hi : und T kt = some (.int .i64)) (hz : zeroT T et = some (.lit (.int .i64 0))) (hb : h.at b = some (.map es c)) (ho : Ones es ks) (hd : d ∉ ks) :
    lookupA T h t (.mp b) (.lit (.int .i64 d)) false = some (.lit (.int .i64 0)) := by
  unfold lookupA
  simp only [keyOf, entsA, hb, elemT, hu, findT_int hu hi, (findA_int d ks es 0 ho).1 hd, hz]
  rfl
theorem look_old (hu : und T t = some (.map kt et)) (hi : und T kt = some (.int .i64)) (hz : zeroT T et = some (.lit (.int .i64 0))) (hb : h.at b = some (.map es c)) (ho : Ones es ks) (hd : d ∈ ks) :
    lookupA T h t (.mp b) (.lit (.int .i64 d)) false = some (.lit (.int .i64 1)) := by
  obtain ⟨j, hj, q1, q2⟩ := (findA_int d ks es 0 ho).2 hd
  unfold lookupA
  simp only [keyOf, entsA, hb, elemT, hu, findT_int hu hi, q1, hz]
  rfl
theorem upd_new {x : AV} (hu : und T t = some (.map kt et)) (hi : und T kt = some (.int .i64)) (hb : h.at b = some (.map es c)) (ho : Ones es ks) (hd : d ∉ ks) :
    updateA T h t (.mp b) (.lit (.int .i64 d)) x = some (h.put b (.map (es ++ [{ key := .int .i64 d, val := x, born := c }]) (c + 1))) := by
  unfold updateA
  simp only [keyOf, hb, findT_int hu hi, (findA_int d ks es 0 ho).1 hd]
theorem upd_old {x : AV} (hu : und T t = some (.map kt et)) (hi : und T kt = some (.int .i64)) (hz : zeroT T et = some (.lit (.int .i64 0))) (hb : h.at b = some (.map es c)) (ho : Ones es ks) (hd : d ∈ ks) :
    ∃ es', updateA T h t (.mp b) (.lit (.int .i64 d)) x = some (h.put b (.map es' c)) ∧ ∀ h', h'.at b = some (.map es' c) → lookupA T h' t (.mp b) (.lit (.int .i64 d)) false = some x := by
  obtain ⟨j, hj, q1, q2⟩ := (findA_int d ks es 0 ho).2 hd
  refine ⟨es.modify (0 + j) fun e => { e with key := .int .i64 d, val := x }, ?_, fun h' hb' => ?_⟩
  · unfold updateA
    simp only [keyOf, hb, findT_int hu hi, q1]
  · unfold lookupA
    rw [Nat.zero_add] at hb'
    simp only [keyOf, entsA, hb', elemT, hu, findT_int hu hi, q2 x, hz]
    rfl
/-- What a new key gives, and the next look. -/
theorem look_put {cc : Nat} (hu : und T t = some (.map kt et)) (hi : und T kt = some (.int .i64)) (hz : zeroT T et = some (.lit (.int .i64 0))) (ho : Ones es ks) (hb : h.at b = some (.map (es ++ [{ key := .int .i64 d, val := .lit (.int .i64 1), born := c }]) cc)) :
    lookupA T h t (.mp b) (.lit (.int .i64 d)) false = some (.lit (.int .i64 1)) :=
  look_old hu hi hz hb ho.snoc (List.mem_append.2 (.inr (List.mem_cons_self ..)))
end
end Go.Proofs.YtfbpjobjdmmgiaaGreat.Ex
end

section

set_option linter.unusedSimpArgs false
set_option linter.unusedVariables false
set_option maxRecDepth 10000
set_option maxHeartbeats 4000000
namespace Go.Proofs.YtfbpjobjdmmgiaaGreat.Ex
open Go
def itemC (m : MapD) (its : List Int) (b : BktD) (k : Nat) : Bool := !((its ++ b.items.take k).contains (b.items.getD k 0)) && fitF m b (b.items.getD k 0) && wOk (b.weights.getD k 0)
def bC (m : MapD) (i : Nat) (b : BktD) : Bool := hdOk m i b && (List.range b.items.length).all (itemC m (itsTo m i) b)
def checkF (m : MapD) : Bool := decide (0 ≤ m.leaf) && decide (m.leaf ≤ 3) && (List.range m.buckets.length).all (fun i => bC m i (m.buckets.getD i bkt0))
theorem check_false {m : MapD} {i : Nat} {x : BktD} (hx : m.buckets[i]? = some x) (h : bC m i x = false) : checkF m = false := by
  unfold checkF
  rw [range_all_false (i := i) (List.getElem?_eq_some_iff.1 hx).1 (by simp only [getD_of hx]; exact h), Bool.and_false]
def errC (m : MapD) : Int := if checkF m then 0 else 22
theorem check_x {F : Nat → Prop} {H : AH} {m : MapD} {vo vp vb : AV} (hm : MpAt F H m vo vp vb) (hok : OkM m) :
    WC Tryz.prog (tabOf Tryz.prog NT0) S0 66 [mpV m vo vp vb] H fun r h' => Ext H.n H h' ∧ r = .lit (.int .i64 (errC m)) := by
  refine WC_fn Tryz.func66 rfl rfl ?_
  obtain ⟨hl, hbs, hit⟩ := hok
  have hl0 := hl
  unfold Sm at hl
  have s1 := hm.b.isSl
  have s2 := hm.b.lenD
  have o1 := hm.o.one
  have o2 := hm.p.one
  have o3 := hm.b.one
  have hcap : CapOk 4 vb := by obtain ⟨L, -, -, hc, -⟩ := hm.b.out; exact hc
  have EP : ∀ x, Ext H.n H (H.push x) := fun x => (Ext.refl _ _).push _ (Nat.le_refl _)
  have hbad0 : ∀ h', Ext H.n H h' → checkF m = false → Ext H.n H h' ∧ AV.lit (.int .i64 22) = .lit (.int .i64 (errC m)) := fun h' e hf => ⟨e, by unfold errC; rw [hf]; rfl⟩
  simp only [core, zrA, zrS, zrM, zrL, zrE, reduceCtorEq, zrD, ziE, ziL, ziN, Tryz.ntmps66, mpV, o1, o2, o3]
  by_cases hl1 : m.leaf < 0
  · simp only [core, zrA, zrS, zrM, zrL, zrE, reduceCtorEq, zrD, ziE, ziL, ziN, hl1]
    refine hbad0 _ (EP _) ?_
    unfold checkF
    rw [decide_eq_false (show ¬ 0 ≤ m.leaf by omega)]
    rfl
  by_cases hl2 : 3 < m.leaf
  · simp only [core, zrA, zrS, zrM, zrL, zrE, reduceCtorEq, zrD, ziE, ziL, ziN, hl1, hl2]
    refine hbad0 _ (EP _) ?_
    unfold checkF
    rw [decide_eq_false (show ¬ m.leaf ≤ 3 by omega), Bool.and_false]
    rfl
  have hg0 : checkF m = (List.range m.buckets.length).all (fun i => bC m i (m.buckets.getD i bkt0)) := by
    unfold checkF
    rw [decide_eq_true (show 0 ≤ m.leaf by omega), decide_eq_true (show m.leaf ≤ 3 by omega)]
    rfl
  simp only [core, zrA, zrS, zrM, zrL, zrE, reduceCtorEq, zrD, ziE, ziL, ziN, a_mkm, hl1, hl2, s1, s2]
  obtain ⟨h1, hh1⟩ : ∃ h1, h1 = (H.push (.cells [.lit (.int .i64 m.epoch), vo, vp, vb, .lit (.int .i64 m.leaf)] 69)).push (.map [] 0) := ⟨_, rfl⟩
  have E0 : Ext H.n H h1 := hh1 ▸ (EP _).push _ (by rw [n_push]; omega)
  have A0 : h1.at H.n = some (.cells [.lit (.int .i64 m.epoch), vo, vp, vb, .lit (.int .i64 m.leaf)] 69) := by
    rw [hh1, at_push_lt _ (by rw [n_push]; omega)]
    exact at_push_n _ _
  have M0 : h1.at (H.n + 1) = some (.map [] 0) := by
    rw [hh1]
    have := at_push_n (H.push (.cells [.lit (.int .i64 m.epoch), vo, vp, vb, .lit (.int .i64 m.leaf)] 69)) (.map [] 0)
    rw [n_push] at this
    exact this
  have n1 : h1.n = H.n + 2 := by rw [hh1, n_push, n_push]
  rw [← hh1]
  clear hh1
  refine WB_for m.buckets.length (fun i t h => ∃ es c, h.at (H.n + 1) = some (.map es c) ∧ Ones es (itsTo m i) ∧ Ext H.n H h ∧ h.at H.n = some (.cells [.lit (.int .i64 m.epoch), vo, vp, vb, .lit (.int .i64 m.leaf)] 69) ∧ (List.range i).all (fun i => bC m i (m.buckets.getD i bkt0)) = true ∧ t.n = 105 ∧ t.get 1 = .ptr H.n 0 ∧ t.get 3 = .mp (H.n + 1) ∧ t.get 20 = vb ∧ t.get 21 = .lit (.int .i64 m.buckets.length) ∧ t.get 22 = .lit (.int .i64 i)) ?_ ?_ _ _ ?_
  · rintro i t h hlt hc ⟨es, cl, M1, ho, E1, A1, hall, hn, g1, g3, g20, g21, g22⟩ ih
    obtain ⟨x, hx⟩ : ∃ x, m.buckets[i]? = some x := ⟨_, List.getElem?_eq_getElem hlt⟩
    obtain ⟨c, hc1, hld, hld0⟩ := hm.b.atE (T := tabOf Tryz.prog NT0) E1 RBkt_z hx
    obtain ⟨va, vw, rfl, ha, hw, i1, i2⟩ := RBkt_is.1 hc1
    obtain ⟨k1, k2⟩ := hbs x (List.mem_of_getElem? hx)
    unfold Sm at k1 k2
    have a1 := ha.one
    have w1 := hw.one
    have a2 := ha.isSl
    have w2 := hw.isSl
    have a3 := ha.lenD
    have w3 := hw.lenD
    have hws := wrap_succ hlt (by omega)
    have l1 : H.n < h.n := at_lt A1
    have lm : H.n + 1 < h.n := at_lt M1
    have LA1 := ld_at (T := tabOf Tryz.prog NT0) A1
    have hno : i ≤ m.buckets.length := by omega
    have hno2 : (i : Int) ≤ (m.buckets.length : Int) := by omega
    have hsub : IsSl RBkt F H (subSl 4 0 i vb) (m.buckets.take i) := by have := hm.b.sub (l := 0) (r := i) (by omega) hno; rw [List.drop_zero] at this; exact this
    have s3 := hsub.isSl
    have s4 : lenD (subSl 4 0 i vb) = i := by rw [hsub.lenD, List.length_take]; omega
    have hbk : bC m i x = (hdOk m i x && (List.range x.items.length).all (itemC m (itsTo m i) x)) := rfl
    have hbad : ∀ h', Ext H.n H h' → bC m i x = false → Ext H.n H h' ∧ AV.lit (.int .i64 22) = .lit (.int .i64 (errC m)) := fun h' e hf => hbad0 _ e (check_false hx hf)
    obtain ⟨hA, hhA⟩ : ∃ hA, hA = h.push (.cells [.lit (.int .i64 x.id), .lit (.int .i64 x.kind), va, vw] 109) := ⟨_, rfl⟩
    have EA : Ext h.n h hA := hhA ▸ (Ext.refl _ _).push _ (Nat.le_refl _)
    have PA : hA.at h.n = some (.cells [.lit (.int .i64 x.id), .lit (.int .i64 x.kind), va, vw] 109) := hhA ▸ at_push_n h _
    have AA := (EA.2 _ l1).trans A1
    have LAA := ld_at (T := tabOf Tryz.prog NT0) AA
    have lA := at_lt AA
    have LPA := ld_at (T := tabOf Tryz.prog NT0) PA
    have lPA := at_lt PA
    have EHA := E1.step EA
    by_cases c1 : 0 ≤ x.id
    · simp only [core, zrA, zrS, zrM, zrL, zrE, reduceCtorEq, zrD, ziE, ziL, ziN, s1, s2, hn, g1, g3, g20, g21, g22, hlt, hc, hld, hld0, a1, w1, ← hhA, LPA, lPA, c1]
      refine hbad _ EHA ?_
      rw [hbk]; unfold hdOk
      rw [decide_eq_false (show ¬ x.id < 0 by omega)]; simp
    by_cases c2 : x.kind < 1
    · simp only [core, zrA, zrS, zrM, zrL, zrE, reduceCtorEq, zrD, ziE, ziL, ziN, s1, s2, hn, g1, g3, g20, g21, g22, hlt, hc, hld, hld0, a1, w1, ← hhA, LPA, lPA, c1, c2]
      refine hbad _ EHA ?_
      rw [hbk]; unfold hdOk
      rw [decide_eq_false (show ¬ 1 ≤ x.kind by omega)]; simp
    by_cases c3 : 3 < x.kind
    · simp only [core, zrA, zrS, zrM, zrL, zrE, reduceCtorEq, zrD, ziE, ziL, ziN, s1, s2, hn, g1, g3, g20, g21, g22, hlt, hc, hld, hld0, a1, w1, ← hhA, LPA, lPA, c1, c2, c3]
      refine hbad _ EHA ?_
      rw [hbk]; unfold hdOk
      rw [decide_eq_false (show ¬ x.kind ≤ 3 by omega)]; simp
    simp only [core, zrA, zrS, zrM, zrL, zrE, reduceCtorEq, zrD, ziE, ziL, ziN, s1, s2, hn, g1, g3, g20, g21, g22, hlt, hc, hld, hld0, a1, w1, ← hhA, LPA, lPA, c1, c2, c3, a2, w2, a3, w3]
    refine ⟨fun hq => ?_, fun hq => ?_⟩
    · refine hbad _ EHA ?_
      rw [hbk]; unfold hdOk
      have : ¬ x.items.length = x.weights.length := by simp at hq; omega
      simp [this]
    have hlen : x.items.length = x.weights.length := by simp at hq; omega
    simp only [core, zrA, zrS, zrM, zrL, zrE, reduceCtorEq, zrD, ziE, ziL, ziN, s1, s2, hn, g1, g3, g20, g21, g22, LAA, lA, hcap, hno, hno2, s3, s4]
    have MA : hA.at (H.n + 1) = some (.map es cl) := (EA.2 _ lm).trans M1
    refine WB_for i (fun j t h' => Ext hA.n hA h' ∧ (m.buckets.take j).any (fun c => c.id == x.id) = false ∧ t.n = 105 ∧ t.get 1 = .ptr H.n 0 ∧ t.get 3 = .mp (H.n + 1) ∧ t.get 4 = .lit (.int .i64 i) ∧ t.get 5 = .ptr h.n 0 ∧ t.get 20 = vb ∧ t.get 21 = .lit (.int .i64 m.buckets.length) ∧ t.get 22 = .lit (.int .i64 i) ∧ t.get 52 = subSl 4 0 i vb ∧ t.get 53 = .lit (.int .i64 i) ∧ t.get 54 = .lit (.int .i64 j)) ?_ ?_ _ _ ?_
    · rintro j t h' hj hc ⟨he2, hany, hn, g1, g3, g4, g5, g20, g21, g22, g52, g53, g54⟩ ih2
      have hjl : j < m.buckets.length := by omega
      obtain ⟨y, hy⟩ : ∃ y, m.buckets[j]? = some y := ⟨_, List.getElem?_eq_getElem hjl⟩
      have hy2 : (m.buckets.take i)[j]? = some y := by rw [List.getElem?_take, if_pos hj, hy]
      have E2 : Ext H.n H h' := EHA.step he2
      obtain ⟨c, hc1, hld, hld0⟩ := hsub.atE (T := tabOf Tryz.prog NT0) E2 RBkt_z hy2
      obtain ⟨ya, yw, rfl, ya1, yw1, -, -⟩ := RBkt_is.1 hc1
      have y1 := ya1.one
      have y2 := yw1.one
      have hws := wrap_succ hj (by omega)
      have P2 := (he2.2 _ lPA).trans PA
      have LP2 := ld_at (T := tabOf Tryz.prog NT0) P2
      have l2 : h.n < h'.n := at_lt P2
      simp only [core, zrA, zrS, zrM, zrL, zrE, reduceCtorEq, zrD, ziE, ziL, ziN, s1, s2, s3, s4, hn, g1, g3, g4, g5, g20, g21, g22, g52, g53, g54, hj, hc, hld, hld0, hws, y1, y2, LP2, l2]
      refine ⟨fun hq => ?_, fun hq => ?_⟩
      · refine hbad _ (E2.push _ E2.1) ?_
        rw [hbk]
        unfold hdOk
        rw [any_true' hy2 hq]
        rfl
      · refine ih2 _ _ ⟨he2.push _ he2.1, ?_, ?_⟩
        · rw [any_take hy, hany]
          simpa using hq
        · simp only [core, zrA, zrS, zrM, zrL, zrE, reduceCtorEq, zrD, ziE, ziL, ziN, hn, g1, g3, g4, g5, g20, g21, g22, g52, g53, g54]
    · rintro t h' hc ⟨he2, hany, hn, g1, g3, g4, g5, g20, g21, g22, g52, g53, g54⟩
      have E2 : Ext H.n H h' := EHA.step he2
      have P2 := (he2.2 _ lPA).trans PA
      have LP2 := ld_at (T := tabOf Tryz.prog NT0) P2
      have l2 : h.n < h'.n := at_lt P2
      have A2 := (he2.2 _ lA).trans AA
      have M2 := (he2.2 _ (at_lt MA)).trans MA
      have hhd : hdOk m i x = true := by
        unfold hdOk
        rw [hany, decide_eq_true (show x.id < 0 by omega), decide_eq_true (show 1 ≤ x.kind by omega), decide_eq_true (show x.kind ≤ 3 by omega)]
        simp [hlen]
      rw [hhd, Bool.true_and] at hbk
      simp only [core, zrA, zrS, zrM, zrL, zrE, reduceCtorEq, zrD, ziE, ziL, ziN, s1, s2, s3, s4, hn, g1, g3, g4, g5, g20, g21, g22, g52, g53, g54, hc, LP2, l2, a2, a3]
      refine WB_for x.items.length (fun k t h3 => ∃ es c, h3.at (H.n + 1) = some (.map es c) ∧ Ones es (itsTo m i ++ x.items.take k) ∧ Ext H.n H h3 ∧ h3.at H.n = some (.cells [.lit (.int .i64 m.epoch), vo, vp, vb, .lit (.int .i64 m.leaf)] 69) ∧ h3.at h.n = some (.cells [.lit (.int .i64 x.id), .lit (.int .i64 x.kind), va, vw] 109) ∧ (List.range k).all (itemC m (itsTo m i) x) = true ∧ t.n = 105 ∧ t.get 1 = .ptr H.n 0 ∧ t.get 3 = .mp (H.n + 1) ∧ t.get 5 = .ptr h.n 0 ∧ t.get 20 = vb ∧ t.get 21 = .lit (.int .i64 m.buckets.length) ∧ t.get 22 = .lit (.int .i64 i) ∧ t.get 65 = va ∧ t.get 66 = .lit (.int .i64 x.items.length) ∧ t.get 67 = .lit (.int .i64 k)) ?_ ?_ _ _ ?_
      · rintro k t h3 hk hc ⟨es, cl, M3, ho3, E3, A3, P3, hkall, hn, g1, g3, g5, g20, g21, g22, g65, g66, g67⟩ ih4
        have hlda := (ha.ext E3 (Nat.le_refl _)).int (T := tabOf Tryz.prog NT0) (e := 3) (by kernel_rfl) (by kernel_rfl) hk
        have hws := wrap_succ hk (by omega)
        have lm3 := at_lt M3
        have l3 := at_lt A3
        have lp3 := at_lt P3
        obtain ⟨d, hd⟩ : ∃ d, d = x.items.getD k 0 := ⟨_, rfl⟩
        have hu : und (tabOf Tryz.prog NT0) 163 = some (.map 3 3) := by kernel_rfl
        have hi : und (tabOf Tryz.prog NT0) 3 = some (.int .i64) := by kernel_rfl
        have hz : zeroT (tabOf Tryz.prog NT0) 3 = some (.lit (.int .i64 0)) := by kernel_rfl
        have w01 : IntKind.i64.wrap (0 + 1) = 1 := by decide
        have w11 : IntKind.i64.wrap (1 + 1) = 2 := by decide
        rw [← hd] at hlda
        by_cases hmem : d ∈ itsTo m i ++ x.items.take k
        · have hL := look_old hu hi hz M3 ho3 hmem
          obtain ⟨es', hU, hL2⟩ := upd_old (x := .lit (.int .i64 2)) hu hi hz M3 ho3 hmem
          obtain ⟨h4, hh4⟩ : ∃ h4, h4 = h3.put (H.n + 1) (.map es' cl) := ⟨_, rfl⟩
          have E4 : Ext H.n H h4 := hh4 ▸ E3.put _ (by omega)
          have hL4 := hL2 h4 (by rw [hh4]; exact at_put_same _ lm3)
          rw [← hh4] at hU
          simp only [core, zrA, zrS, zrM, zrL, zrE, reduceCtorEq, zrD, ziE, ziL, ziN, hn, g1, g3, g5, g20, g21, g22, g65, g66, g67, hc, hk, hlda, a2, a3, a_look, aLookup, a_mupd, aUpdate, hL, hU, hL4, w11]
          refine hbad _ E4 ?_
          rw [hbk, range_all_false hk ?_]
          unfold itemC
          rw [← hd, List.contains_iff_mem.2 hmem]
          rfl
        have hL := look_new hu hi hz M3 ho3 hmem
        have hU := upd_new (x := .lit (.int .i64 1)) hu hi M3 ho3 hmem
        obtain ⟨h4, hh4⟩ : ∃ h4, h4 = h3.put (H.n + 1) (.map (es ++ [{ key := .int .i64 d, val := .lit (.int .i64 1), born := cl }]) (cl + 1)) := ⟨_, rfl⟩
        have E4 : Ext H.n H h4 := hh4 ▸ E3.put _ (by omega)
        have M4 : h4.at (H.n + 1) = some (.map (es ++ [{ key := .int .i64 d, val := .lit (.int .i64 1), born := cl }]) (cl + 1)) := by rw [hh4]; exact at_put_same _ lm3
        have hL4 := look_put hu hi hz ho3 M4
        rw [← hh4] at hU
        have hne : H.n + 1 ≠ h.n := by omega
        have A4 := A3
        rw [← at_put_ne (.map (es ++ [{ key := .int .i64 d, val := .lit (.int .i64 1), born := cl }]) (cl + 1)) (show H.n + 1 ≠ H.n by omega), ← hh4] at A4
        have P4 := P3
        rw [← at_put_ne (.map (es ++ [{ key := .int .i64 d, val := .lit (.int .i64 1), born := cl }]) (cl + 1)) hne, ← hh4] at P4
        have l4 := at_lt A4
        have lp4 := at_lt P4
        have LA4 := ld_at (T := tabOf Tryz.prog NT0) A4
        have LP4 := ld_at (T := tabOf Tryz.prog NT0) P4
        simp only [core, zrA, zrS, zrM, zrL, zrE, reduceCtorEq, zrD, ziE, ziL, ziN, hn, g1, g3, g5, g20, g21, g22, g65, g66, g67, hc, hk, hlda, a2, a3, a_look, aLookup, a_mupd, aUpdate, hL, hU, hL4, w01, LA4, l4, LP4, lp4]
        refine (may_x (b := x) d (hm.ext E4 (Nat.le_refl _)) hl0 hbs a1 w1).mono ?_
        rintro _ h5 ⟨e5, rfl⟩
        have E5 := E4.step e5
        have A5 := (e5.2 _ l4).trans A4
        have P5 := (e5.2 _ lp4).trans P4
        have M5 := (e5.2 _ (at_lt M4)).trans M4
        have lp5 := at_lt P5
        have LP5 := ld_at (T := tabOf Tryz.prog NT0) P5
        have hcon : (itsTo m i ++ x.items.take k).contains d = false := by
          cases hcc : (itsTo m i ++ x.items.take k).contains d with
          | false => rfl
          | true => exact absurd (List.contains_iff_mem.1 hcc) hmem
        have hit : itemC m (itsTo m i) x k = (fitF m x d && wOk (x.weights.getD k 0)) := by
          unfold itemC
          rw [← hd, hcon]
          rfl
        cases hfit : fitF m x d with
        | false =>
          simp only [core, zrA, zrS, zrM, zrL, zrE, reduceCtorEq, zrD, ziE, ziL, ziN, hn, g1, g3, g5, g20, g21, g22, g65, g66, g67]
          refine hbad _ E5 ?_
          rw [hbk, range_all_false hk (by rw [hit, hfit]; rfl)]
        | true =>
        rw [hfit, Bool.true_and] at hit
        have hkw : k < x.weights.length := by omega
        have hldw := (hw.ext E5 (Nat.le_refl _)).int (T := tabOf Tryz.prog NT0) (e := 3) (by kernel_rfl) (by kernel_rfl) hkw
        by_cases d1 : x.weights.getD k 0 < 0
        · simp only [core, zrA, zrS, zrM, zrL, zrE, reduceCtorEq, zrD, ziE, ziL, ziN, hn, g1, g3, g5, g20, g21, g22, g65, g66, g67, LP5, lp5, w2, w3, hkw, hldw, d1]
          refine hbad _ E5 ?_
          rw [hbk, range_all_false hk (by rw [hit]; unfold wOk; rw [decide_eq_false (by omega)]; rfl)]
        by_cases d2 : 1048576 < x.weights.getD k 0
        · simp only [core, zrA, zrS, zrM, zrL, zrE, reduceCtorEq, zrD, ziE, ziL, ziN, hn, g1, g3, g5, g20, g21, g22, g65, g66, g67, LP5, lp5, w2, w3, hkw, hldw, d1, d2]
          refine hbad _ E5 ?_
          rw [hbk, range_all_false hk (by rw [hit]; unfold wOk; rw [decide_eq_false (show ¬ x.weights.getD k 0 ≤ 1048576 by omega), Bool.and_false])]
        simp only [core, zrA, zrS, zrM, zrL, zrE, reduceCtorEq, zrD, ziE, ziL, ziN, hn, g1, g3, g5, g20, g21, g22, g65, g66, g67, LP5, lp5, w2, w3, hkw, hldw, d1, d2, hws]
        refine ih4 _ _ ⟨_, _, M5, ?_, E5, A5, P5, ?_, ?_⟩
        · rw [List.take_add_one, getD_some' 0 hk, ← hd]
          simpa using ho3.snoc (k := d)
        · rw [range_all_succ, hkall, hit]
          unfold wOk
          rw [decide_eq_true (show 0 ≤ x.weights.getD k 0 by omega), decide_eq_true (show x.weights.getD k 0 ≤ 1048576 by omega)]
          rfl
        · simp only [core, zrA, zrS, zrM, zrL, zrE, reduceCtorEq, zrD, ziE, ziL, ziN, hn, g1, g3, g5, g20, g21, g22, g65, g66, g67]
      · rintro t h3 hc ⟨es, cl, M3, ho3, E3, A3, P3, hkall, hn, g1, g3, g5, g20, g21, g22, g65, g66, g67⟩
        rw [List.take_length] at ho3
        simp only [core, zrA, zrS, zrM, zrL, zrE, reduceCtorEq, zrD, ziE, ziL, ziN, hn, g1, g3, g5, g20, g21, g22, g65, g66, g67, hc, hws]
        refine ih _ _ ⟨es, cl, M3, ?_, E3, A3, ?_, ?_⟩
        · rw [itsTo_succ hx]; exact ho3
        · rw [range_all_succ, hall, getD_of hx, hbk, hkall]; rfl
        · simp only [core, zrA, zrS, zrM, zrL, zrE, reduceCtorEq, zrD, ziE, ziL, ziN, hn, g1, g3, g5, g20, g21, g22, g65, g66, g67]
      · refine ⟨_, _, M2, ?_, E2, A2, P2, rfl, ?_⟩
        · rw [List.take_zero, List.append_nil]; exact ho
        · simp only [core, zrA, zrS, zrM, zrL, zrE, reduceCtorEq, zrD, ziE, ziL, ziN, hn, g1, g3, g4, g5, g20, g21, g22, g52, g53, g54]
          (repeat' apply And.intro) <;> first | rfl | trivial
    · simp only [core, zrA, zrS, zrM, zrL, zrE, reduceCtorEq, zrD, ziE, ziL, ziN, hn, g1, g3, g20, g21, g22]
      refine ⟨Ext.refl _ _, rfl, ?_⟩
      (repeat' apply And.intro) <;> first | rfl | trivial
  · rintro t h hc ⟨es, cl, M1, ho, E1, A1, hall, hn, g1, g3, g20, g21, g22⟩
    simp only [core, zrA, zrS, zrM, zrL, zrE, reduceCtorEq, zrD, ziE, ziL, ziN, s1, s2, hn, g1, g3, g20, g21, g22, hc]
    exact ⟨E1, by unfold errC; rw [hg0, hall]; rfl⟩
  · refine ⟨_, _, M0, rfl, E0, A0, rfl, ?_⟩
    simp only [core, zrA, zrS, zrM, zrL, zrE, reduceCtorEq, zrD, ziE, ziL, ziN]
    (repeat' apply And.intro) <;> first | rfl | trivial
end Go.Proofs.YtfbpjobjdmmgiaaGreat.Ex
end

section

set_option linter.unusedSimpArgs false
set_option linter.unusedVariables false
set_option maxRecDepth 10000
set_option maxHeartbeats 4000000
namespace Go.Proofs.YtfbpjobjdmmgiaaGreat.Ex
open Go
theorem wAll {l : List Int} : l.all wOk = (List.range l.length).all (fun k => wOk (l.getD k 0)) := by
  apply Bool.eq_iff_iff.2
  rw [List.all_eq_true, List.all_eq_true]
  constructor
  · intro h k hk
    exact h _ (List.mem_of_getElem? (getD_some' 0 (List.mem_range.1 hk)))
  · intro h y hy
    obtain ⟨j, hj, hjb⟩ := List.mem_iff_getElem.1 hy
    have := h j (List.mem_range.2 hj)
    rw [List.getD_eq_getElem?_getD, List.getElem?_eq_getElem hj, hjb] at this
    exact this
theorem fit_kind {m : MapD} {b : BktD} {d : Int} (hk : ∀ c ∈ m.buckets, 1 ≤ c.kind) (hb : 1 ≤ b.kind) : fitF m b d = (decide (0 ≤ kindF m d) && decide (kindF m d < b.kind)) := by
  unfold fitF kindF
  by_cases h0 : 0 ≤ d
  · rw [if_pos h0, if_pos h0]
    by_cases h8 : d < 8
    · rw [if_pos h8, decide_eq_true h8, decide_eq_true (show (0 : Int) < b.kind by omega)]
      rfl
    · rw [if_neg h8, decide_eq_false h8]
      rfl
  · rw [if_neg h0, if_neg h0]
    unfold bucketG
    cases hf : bucketF m d with
    | none => rfl
    | some c =>
      have := hk c (List.mem_of_find?_eq_some hf)
      simp only [Option.isSome_some, if_true, Option.getD_some, Bool.true_and]
      rw [decide_eq_true (show 0 ≤ c.kind by omega), Bool.true_and]
theorem hd_kind {m : MapD} {i : Nat} {b : BktD} (h : hdOk m i b = true) : 1 ≤ b.kind ∧ b.items.length = b.weights.length := by
  unfold hdOk at h
  simp only [Bool.and_eq_true, decide_eq_true_eq, beq_iff_eq] at h
  exact ⟨h.1.1.2, h.2⟩
theorem bC_bOk {m : MapD} {i : Nat} {b : BktD} (hk : ∀ c ∈ m.buckets, 1 ≤ c.kind) (h : hdOk m i b = true) : bC m i b = bOk m i b := by
  obtain ⟨h1, h2⟩ := hd_kind h
  unfold bC bOk
  rw [h, wAll, ← h2]
  apply Bool.eq_iff_iff.2
  simp only [Bool.true_and, Bool.and_eq_true, List.all_eq_true, List.mem_range]
  unfold itemC itemOk
  simp only [fit_kind hk h1, Bool.and_eq_true]
  constructor
  · intro h
    exact ⟨fun k hk => (h k hk).2, fun k hk => ⟨(h k hk).1.2, (h k hk).1.1⟩⟩
  · intro h k hk
    exact ⟨⟨(h.2 k hk).2, (h.2 k hk).1⟩, h.1 k hk⟩
theorem all_kind {m : MapD} {p : Nat → BktD → Bool} (hp : ∀ i b, p i b = true → hdOk m i b = true) (h : (List.range m.buckets.length).all (fun i => p i (m.buckets.getD i bkt0)) = true) : (∀ c ∈ m.buckets, 1 ≤ c.kind) ∧ ∀ i, i < m.buckets.length → hdOk m i (m.buckets.getD i bkt0) = true := by
  have h2 : ∀ i, i < m.buckets.length → hdOk m i (m.buckets.getD i bkt0) = true := fun i hi => hp _ _ (List.all_eq_true.1 h i (List.mem_range.2 hi))
  refine ⟨fun c hc => ?_, h2⟩
  obtain ⟨j, hj, hjb⟩ := List.mem_iff_getElem.1 hc
  have := (hd_kind (h2 j hj)).1
  rw [List.getD_eq_getElem?_getD, List.getElem?_eq_getElem hj, hjb] at this
  exact this
theorem check_good (m : MapD) : checkF m = goodF m := by
  unfold checkF goodF
  congr 1
  apply Bool.eq_iff_iff.2
  constructor
  · intro h
    obtain ⟨h1, h2⟩ := all_kind (p := bC m) (fun i b hb => by unfold bC at hb; simp only [Bool.and_eq_true] at hb; exact hb.1) h
    rw [List.all_eq_true] at *
    intro i hi
    rw [← bC_bOk h1 (h2 i (List.mem_range.1 hi))]
    exact h i hi
  · intro h
    obtain ⟨h1, h2⟩ := all_kind (p := bOk m) (fun i b hb => by unfold bOk at hb; simp only [Bool.and_eq_true] at hb; exact hb.1.1) h
    rw [List.all_eq_true] at *
    intro i hi
    rw [bC_bOk h1 (h2 i (List.mem_range.1 hi))]
    exact h i hi
end Go.Proofs.YtfbpjobjdmmgiaaGreat.Ex
end

section

set_option linter.unusedSimpArgs false
set_option linter.unusedVariables false
namespace Go.Proofs.YtfbpjobjdmmgiaaGreat.Ex
open Go
/-- A row of cells. -/
def rowO (w : World) (r : Nat) : Option (List Value × TypeId) := match w.heap[r]? with
  | some (.cells cur e _) => some (cur.toList, e)
  | _ => none
theorem rowO_inv {w : World} {r : Nat} {l : List Value} {e : TypeId} (h : rowO w r = some (l, e)) : ∃ cur fz, w.heap[r]? = some (.cells cur e fz) ∧ l = cur.toList := by
  unfold rowO at h
  split at h
  · rename_i cur e' fz hh
    simp only [Option.some.injEq, Prod.mk.injEq] at h
    obtain ⟨rfl, rfl⟩ := h
    exact ⟨cur, fz, hh, rfl⟩
  · cases h
def winsAt (w : World) (r : Nat) : List (Nat × Nat) := match rowO w r with
  | some (l, _) => (List.range (l.length + 1)).map fun off => (r, off)
  | none => []
/-- All windows: a row from a place on. -/
def wins (w : World) : List (Nat × Nat) := (List.range w.heap.size).flatMap (winsAt w)
theorem mem_wins {w : World} {r off : Nat} : (r, off) ∈ wins w ↔ ∃ l e, rowO w r = some (l, e) ∧ off ≤ l.length := by
  unfold wins
  rw [List.mem_flatMap]
  constructor
  · rintro ⟨r', _, h⟩
    unfold winsAt at h
    split at h
    · rename_i l e hl
      obtain ⟨off', h1, h2⟩ := List.mem_map.1 h
      simp only [Prod.mk.injEq] at h2
      obtain ⟨rfl, rfl⟩ := h2
      rw [List.mem_range] at h1
      exact ⟨l, e, hl, by omega⟩
    · cases h
  · rintro ⟨l, e, hl, ho⟩
    refine ⟨r, ?_, ?_⟩
    · obtain ⟨cur, fz, hh, _⟩ := rowO_inv hl
      rw [List.mem_range]
      exact (Array.getElem?_eq_some_iff.1 hh).1
    · unfold winsAt
      rw [hl]
      exact List.mem_map.2 ⟨off, by rw [List.mem_range]; omega, rfl⟩
/-- A window's number. -/
def widx (w : World) (p : Nat × Nat) : Nat := (wins w).idxOf p + 1
def mu0 (w : World) : Mu := fun b => match b with
  | 0 => none
  | k + 1 => (wins w)[k]?
theorem mu0_widx {w : World} {p : Nat × Nat} (h : p ∈ wins w) : mu0 w (widx w p) = some p := by
  show (wins w)[(wins w).idxOf p]? = some p
  have hlt := List.idxOf_lt_length_of_mem h
  rw [List.getElem?_eq_getElem hlt, List.getElem_idxOf hlt]
instance (w : World) (p : Nat × Nat) : Decidable (p ∈ wins w) := inferInstance
def absV (w : World) : Value → AV
  | .pointer (some ⟨r, o, none⟩) => if (r, o) ∈ wins w then .ptr (widx w (r, o)) 0 else .any
  | .slice (some a) len cap => if len = 0 ∧ cap = 0 then .sl 0 0 0 (.kn 0) else match a with
    | ⟨r, o, none⟩ => if (r, o) ∈ wins w ∧ len ≤ cap ∧ cap ≤ maxLen then .sl (widx w (r, o)) 0 len (.kn cap) else .any
    | _ => .any
  | v => bif scal v then .lit v else .any
theorem absV_rel {ρ : Nat → Value} {w : World} {v : Value} (hv : v.oneCell' = true) : rel ρ (mu0 w) w (absV w v) v := by
  unfold absV
  split
  · rename_i r o
    split
    · rename_i hm
      unfold rel
      exact ⟨r, o, mu0_widx hm, rfl⟩
    · unfold rel; exact hv
  · rename_i a len cap
    split
    · rename_i h0
      obtain ⟨rfl, rfl⟩ := h0
      unfold rel
      exact .inr ⟨rfl, rfl, a, rfl⟩
    · split
      · rename_i r o
        split
        · rename_i hm
          unfold rel
          exact .inl ⟨r, o, o, cap, mu0_widx hm.1, rfl, .inr rfl, rfl, hm.2.1, hm.2.2⟩
        · unfold rel; exact hv
      · unfold rel; exact hv
  · cases hs : scal v with
    | false => simp only [cond_false]; unfold rel; exact hv
    | true => simp only [cond_true]; exact rel_lit hs
/-- A window's cells, as far as they are cells. -/
def absB (w : World) (p : Nat × Nat) : AB := match rowO w p.1 with
  | some (l, e) => .frz (((l.drop p.2).takeWhile (·.oneCell')).map (absV w)) e
  | none => .gone
def AH.ofList (l : List AB) : AH := l.foldl AH.push .nil
theorem L_foldl : ∀ (l : List AB) (h : AH), (l.foldl AH.push h).L = h.L ++ l
  | [], h => by simp
  | x :: r, h => by rw [List.foldl_cons, L_foldl r, L_push, List.append_assoc]; rfl
theorem L_ofList (l : List AB) : (AH.ofList l).L = l := by
  unfold AH.ofList
  rw [L_foldl]
  rfl
/-- The abstract heap of a world; block 0 is an empty row. -/
def absH (w : World) : AH := AH.ofList (.frz [] 0 :: (wins w).map (absB w))
theorem absH_L (w : World) : (absH w).L = .frz [] 0 :: (wins w).map (absB w) := L_ofList _
theorem absH_0 (w : World) : (absH w).at 0 = some (.frz [] 0) := by rw [← L_at, absH_L]; rfl
theorem absH_at {w : World} {p : Nat × Nat} (h : p ∈ wins w) : (absH w).at (widx w p) = some (absB w p) := by
  rw [← L_at, absH_L]
  have : (wins w)[(wins w).idxOf p]? = some p := mu0_widx h
  show ((wins w).map (absB w))[(wins w).idxOf p]? = _
  rw [List.getElem?_map, this]
  rfl
theorem absH_wr {w : World} {b : Nat} {ab : AB} (h : (absH w).L[b]? = some ab) : wr ab = false := by
  rw [absH_L] at h
  cases b with
  | zero => simp at h; subst h; rfl
  | succ k =>
    rw [List.getElem?_cons_succ, List.getElem?_map] at h
    obtain ⟨p, _, rfl⟩ := Option.map_eq_some_iff.1 h
    unfold absB
    split <;> rfl
theorem absH_nw (w : World) (b : Nat) (ab : AB) (h : (absH w).at b = some ab) : wr ab = false := absH_wr (by rw [L_at]; exact h)
theorem takeWhile_get {α : Type} {p : α → Bool} : ∀ {l : List α} {i : Nat} {x : α}, (l.takeWhile p)[i]? = some x → l[i]? = some x ∧ p x = true
  | [], i, x, h => by simp at h
  | a :: r, i, x, h => by
    rw [List.takeWhile_cons] at h
    cases ha : p a with
    | false => rw [ha] at h; simp at h
    | true =>
      rw [ha] at h
      cases i with
      | zero => simp at h; subst h; exact ⟨rfl, ha⟩
      | succ i => simp only [if_true, List.getElem?_cons_succ] at h ⊢; exact takeWhile_get h
theorem takeWhile_take {α : Type} {p : α → Bool} : ∀ {l : List α} {n : Nat}, (∀ x ∈ l.take n, p x = true) → (l.takeWhile p).take n = l.take n
  | [], n, _ => by simp
  | a :: r, 0, _ => by simp
  | a :: r, n + 1, h => by
    rw [List.takeWhile_cons, if_pos (h a (by simp)), List.take_succ_cons, List.take_succ_cons, takeWhile_take fun x hx => h x (by simp [hx])]
theorem absH_hr {P : Program} {ρ : Nat → Value} (w : World) (hpin : PinOf ρ (mu0 w) w := by intro r h; cases h) : HR P ρ w.heap.size (mu0 w) (absH w) w := by
  refine ⟨Nat.le_refl _, fun b x hb => ?_, fun b r base ab hb hx => ?_, fun b b' r base base' ab ab' h1 h2 h3 h4 h5 h6 => ?_, hpin⟩
  · rw [absH_L]
    cases b with
    | zero => cases hb
    | succ k =>
      have : k < (wins w).length := (List.getElem?_eq_some_iff.1 (show (wins w)[k]? = some x from hb)).1
      simp only [List.length_cons, List.length_map]
      omega
  · cases b with
    | zero => cases hb
    | succ k =>
      have hk : (wins w)[k]? = some (r, base) := hb
      rw [absH_L, List.getElem?_cons_succ, List.getElem?_map, hk] at hx
      simp only [Option.map_some, Option.some.injEq] at hx
      obtain ⟨l, e, hl, ho⟩ := mem_wins.1 (List.mem_of_getElem? hk)
      obtain ⟨cur, fz, hh, rfl⟩ := rowO_inv hl
      unfold absB at hx
      rw [hl] at hx
      simp only at hx
      subst hx
      refine ⟨fun hw => (by cases hw), (Array.getElem?_eq_some_iff.1 hh).1, _, hh, cur, fz, rfl, ?_, fun i x hi => ?_⟩
      · have h1 := (List.takeWhile_prefix (l := cur.toList.drop base) (·.oneCell')).length_le
        rw [List.length_drop] at h1
        have e0 : cur.toList.length = cur.size := Array.length_toList
        rw [e0] at h1 ho
        rw [List.length_map]
        exact Nat.le_trans (Nat.add_le_add_left h1 base) (by omega)
      · rw [List.getElem?_map] at hi
        obtain ⟨v, hv, rfl⟩ := Option.map_eq_some_iff.1 hi
        obtain ⟨h1, h2⟩ := takeWhile_get hv
        rw [List.getElem?_drop, Array.getElem?_toList] at h1
        exact ⟨v, h1, absV_rel h2⟩
  · have := absH_wr h3
    rw [this] at h5
    cases h5
end Go.Proofs.YtfbpjobjdmmgiaaGreat.Ex
end

section

set_option linter.unusedSimpArgs false
set_option linter.unusedVariables false
namespace Go.Proofs.YtfbpjobjdmmgiaaGreat
open Go.RowKit Go.ChangeShapes Go.WideShapes Go.ChangeAt
open Go.ChangeMaps (open_string shut_string)
theorem own : ownKnob Tryz.prog.godebug = none := by kernel_rfl
theorem laidOut : laidOutB Tryz.prog = true := by kernel_rfl
section
variable {H : Type} {enc : TypeId × Value → H} {P : Program} {W W' : World}
theorem below_trodAll (hl : laidOutB P = true) (hb : Below W.heap.size W W') : ∀ {ts : List TypeId} {vs : List Value} {ds : List (DataW H)} {ps : List MemPlace},
    ts.all (fun t => P.readableRec t && decide (t < P.types.size)) = true → DataW.TrodAll enc P W 0 (fun _ => true) true ts vs ds ps → DataW.TrodAll enc P W' 0 (fun b => decide (b < W.heap.size)) true ts vs ds ps
  | [], _, _, _, _, h => by obtain ⟨rfl, rfl, rfl⟩ := trodAll_nil h; exact trodAll_mk0
  | t :: ts, vs, ds, ps, hr, h => by
    obtain ⟨v, vs', d, ds', p, q, rfl, rfl, rfl, h1, h2⟩ := trodAll_cons h
    simp only [List.all_cons, Bool.and_eq_true, decide_eq_true_eq] at hr
    refine trodAll_cons_mk (Below.trod hl hr.1.1 hr.1.2 h1 hb ?_) (below_trodAll hl hb (by simpa using hr.2) h2)
    obtain ⟨m, hm⟩ := h1
    exact DataW.trod_lt m _ _ _ hm
theorem weightsAll_mem {e : TypeId} : ∀ {l : List (DataW H)} {i : Nat} {d : DataW H}, l[i]? = some d → ∀ n ∈ d.weights P e, n ∈ DataW.weightsAll P e l
  | d0 :: l, 0, d, h, n, hn => by simp at h; subst h; simp [DataW.weightsAll, hn]
  | d0 :: l, i + 1, d, h, n, hn => by
    simp only [List.getElem?_cons_succ] at h
    simp only [DataW.weightsAll, List.mem_append]
    exact .inr (weightsAll_mem h n hn)
end
end Go.Proofs.YtfbpjobjdmmgiaaGreat
end

section

set_option linter.unusedSimpArgs false
set_option linter.unusedVariables false
namespace Go.Proofs.YtfbpjobjdmmgiaaGreat.Ex
open Go Go.RowKit Go.ChangeShapes Go.WideShapes Go.ChangeAt
section
variable {H : Type} (enc : TypeId × Value → H)
/-- The blocks of the abstract heap. -/
def InH (W : World) : Nat → Prop := fun b => b < (absH W).n
/-- A value of type t that is read is plain data; of what is not too great, B holds; μ is no greater than the reading's bulk. -/
def OpensM (P : Program) (W : World) (t : TypeId) {α : Type} (R : Rep α) (B : α → Prop) (μ : α → Nat) : Prop :=
  P.cellsOf t = R.z ∧ ∀ (fuel : Nat) (cs : List Value) (x : DataW H × List MemPlace), DataW.trod enc P W 0 (fun _ => true) true fuel t cs = some x → (x.1.weights P t).all (· ≤ reachBytes) = true →
    cs.length = R.z ∧ (∀ c ∈ cs, c.oneCell' = true) ∧ ∃ y, R.is (InH W) (absH W) (cs.map (absV W)) y ∧ B y ∧ μ y ≤ Rows.uptoBulk x.1
def OpensA (P : Program) (W : World) (t : TypeId) {α : Type} (R : Rep α) (B : α → Prop) : Prop := OpensM enc P W t R B (fun _ => 0)
variable {enc} {P : Program} {W : World}
theorem OpensM.to {t : TypeId} {α : Type} {R : Rep α} {B B' : α → Prop} {μ μ' : α → Nat} (h : OpensM enc P W t R B μ) (hB : ∀ y, B y → B' y) (hm : ∀ y, μ' y ≤ μ y) : OpensM enc P W t R B' μ' := by
  refine ⟨h.1, fun fuel cs x hf hw => ?_⟩
  obtain ⟨a, b, y, c, d, e⟩ := h.2 fuel cs x hf hw
  exact ⟨a, b, y, c, hB y d, Nat.le_trans (hm y) e⟩
theorem OpensM.toA {t : TypeId} {α : Type} {R : Rep α} {B : α → Prop} {μ : α → Nat} (h : OpensM enc P W t R B μ) : OpensA enc P W t R B := h.to (fun _ h => h) fun _ => Nat.zero_le _
theorem bulk_pos : ∀ d : DataW H, 1 ≤ Rows.uptoBulk d := by
  intro d
  unfold Rows.uptoBulk
  split <;> omega
theorem opensM_int {t : TypeId} (ht : P.underlying t = some (.int .i64)) (hc : P.cellsOf t = 1) : OpensM enc P W t RInt (fun _ => True) (fun _ => 1) := by
  refine ⟨hc, fun fuel cs x h _ => ?_⟩
  obtain ⟨n, rfl, rfl, hw⟩ := DataW.trod_int ht h
  refine ⟨rfl, by simp; rfl, n, ⟨rfl, ?_⟩, trivial, bulk_pos _⟩
  simp only [Lit.wf, IntKind.min, IntKind.max, IntKind.signed, IntKind.bits] at hw
  simp at hw
  exact ⟨hw.1, by omega⟩
theorem opensA_int {t : TypeId} (ht : P.underlying t = some (.int .i64)) (hc : P.cellsOf t = 1) : OpensA enc P W t RInt (fun _ => True) := (opensM_int ht hc).toA
theorem flat_getV {α : Type} {z : Nat} : ∀ {L : List (List α)}, (∀ x ∈ L, x.length = z) → ∀ (i : Nat) {c : List α}, L[i]? = some c → (L.flatten.drop (i * z)).take z = c
  | [], _, i, c, hc => by simp at hc
  | a :: r, h, i, c, hc => by
    have ha := h a (by simp)
    cases i with
    | zero =>
      obtain rfl : a = c := by simpa using hc
      rw [Nat.zero_mul, List.drop_zero, List.flatten_cons, ← ha, List.take_left']
      rfl
    | succ i =>
      rw [List.flatten_cons, Nat.succ_mul, Nat.add_comm, List.drop_append, List.drop_of_length_le (by omega), List.nil_append, ha, Nat.add_sub_cancel_left]
      exact flat_getV (fun x hx => h x (by simp [hx])) i (by simpa using hc)
theorem flat_lenV {α : Type} {z : Nat} {L : List (List α)} (h : ∀ x ∈ L, x.length = z) : L.flatten.length = L.length * z := by
  induction L with
  | nil => simp
  | cons a r ih =>
    rw [List.flatten_cons, List.length_append, ih (fun x hx => h x (by simp [hx])), h a (by simp), List.length_cons, Nat.succ_mul]
    omega
theorem weightsAll_mem {e : TypeId} : ∀ {l : List (DataW H)} {d : DataW H}, d ∈ l → ∀ n ∈ d.weights P e, n ∈ DataW.weightsAll P e l
  | a :: r, d, hd, n, hn => by
    simp only [DataW.weightsAll, List.mem_append]
    rcases List.mem_cons.1 hd with rfl | h
    · exact .inl hn
    · exact .inr (weightsAll_mem h n hn)
theorem bulkAll_le {f g : List (DataW H × List MemPlace)} : Rows.uptoBulkAll ((f ++ g).map (·.1)) = Rows.uptoBulkAll (f.map (·.1)) + Rows.uptoBulkAll (g.map (·.1)) := by
  induction f with
  | nil => simp [Rows.uptoBulkAll]
  | cons a r ih => simp only [List.cons_append, List.map_cons, Rows.uptoBulkAll, ih]; omega
theorem opensM_list {t e : TypeId} {α : Type} {R : Rep α} {B : α → Prop} {μ : α → Nat} {by' : Nat} (ht : P.underlying t = some (.slice e)) (hc : P.cellsOf t = 1) (hb : P.bytesOf e = by') (h0 : 0 < R.z) (ho : OpensM enc P W e R B μ) :
    OpensM enc P W t (RSl R) (fun ys => ys.length * by' ≤ 140737488351232 ∧ ∀ y ∈ ys, B y) (fun ys => (ys.map μ).sum) := by
  refine ⟨hc, fun fuel cs x hf hw => ?_⟩
  rcases DataW.trod_slice ht hf with ⟨rfl, rfl⟩ | ⟨a, len, cap, elems, rest, m, rfl, rfl, rfl, hba, hl, hm, hlen, hel, hsp, hns⟩
  · exact ⟨rfl, by simp; rfl, [], RSl_is.2 ⟨_, rfl, IsSl.nil⟩, ⟨by simp, by simp⟩, by simp⟩
  · rw [ho.1] at hel hsp
    simp only [DataW.weights, ht, List.all_cons, List.all_append, Bool.and_eq_true, decide_eq_true_eq, hb] at hw
    obtain ⟨hw1, hw2, hw3⟩ := hw
    have hrl := (hsp rfl).1
    have hbig : len * by' ≤ 140737488351232 := by
      have h1 : len * by' ≤ (elems.map (·.1)).length * by' + (rest.map (·.1)).length * by' := by rw [List.length_map, hlen]; omega
      rw [← Nat.add_mul] at h1
      exact Nat.le_trans h1 hw1
    have hone : ∀ c ∈ [Value.slice (some a) len cap], c.oneCell' = true := by simp; rfl
    refine ⟨rfl, hone, ?_⟩
    by_cases hz : len = 0 ∧ cap = 0
    · obtain ⟨rfl, rfl⟩ := hz
      refine ⟨[], RSl_is.2 ⟨.sl 0 0 0 (.kn 0), by simp [absV], .mk (L := []) ⟨by simp, .inr ⟨0, 0, _, [], rfl, by unfold getR; rw [absH_0], by simp [cut]⟩⟩ (fun b off n cap e => ?_) (fun b off n cap e => by cases e; exact Nat.le_refl 0) .nil⟩, ⟨by simp, by simp⟩, by simp⟩
      cases e
      exact at_lt (absH_0 W)
    · have hcap : 0 < cap := by omega
      have hsz0 : elems.length + rest.length = cap := by omega
      -- what is read
      have hrd : ∀ i, i < cap → ∃ l x, W.cells? 0 (a.add (i * R.z)) R.z = some l ∧ DataW.trod enc P W 0 (fun _ => true) true m e l = some x ∧ (i < len → elems[i]? = some x) := fun i hi => by
        by_cases hil : i < len
        · have h2 := hel i hil
          rw [List.getElem?_eq_getElem (by omega)] at h2
          obtain ⟨l, hl1, hl2⟩ := Option.bind_eq_some_iff.1 h2
          exact ⟨l, _, hl1, hl2, fun _ => List.getElem?_eq_getElem (by omega)⟩
        · have h2 := (hsp rfl).2 (i - len) (by omega)
          rw [List.getElem?_eq_getElem (by omega), show len + (i - len) = i by omega] at h2
          obtain ⟨l, hl1, hl2⟩ := Option.bind_eq_some_iff.1 h2
          exact ⟨l, _, hl1, hl2, fun h => absurd h hil⟩
      obtain ⟨r, o, spot⟩ := a
      obtain ⟨l0, x0, q1, q2, -⟩ := hrd 0 hcap
      have hspot : spot = none := by
        have h3 := World.cells?_some q1
        have h4 := h3.2.2 0 h0
        rw [List.getElem?_eq_getElem (by have := h3.2.1; omega)] at h4
        simpa [Addr.add] using World.cell?_spot h4
      subst hspot
      have hcell : ∀ (k : Nat) (v : Value), W.cell? (⟨r, o + k, none⟩ : Addr) = some v → ∃ cur e fz, W.heap[r]? = some (.cells cur e fz) ∧ cur[o + k]? = some v := fun k v hk => by
        unfold World.cell? at hk
        cases hh : W.heap[r]? with
        | none => simp [hh] at hk
        | some ob => cases ob <;> simp [hh] at hk <;> exact ⟨_, _, _, rfl, hk⟩
      -- the row
      obtain ⟨cur, te, fz, hrow⟩ : ∃ cur te fz, W.heap[r]? = some (.cells cur te fz) := by
        have h3 := World.cells?_some q1
        have h4 := h3.2.2 0 h0
        rw [List.getElem?_eq_getElem (by have := h3.2.1; omega)] at h4
        obtain ⟨cur, te, fz, h5, _⟩ := hcell 0 _ (by simpa [Addr.add] using h4)
        exact ⟨cur, te, fz, h5⟩
      have hcur : ∀ i l, W.cells? 0 ((⟨r, o, none⟩ : Addr).add (i * R.z)) R.z = some l → l.length = R.z ∧ ∀ f, f < R.z → cur[o + i * R.z + f]? = l[f]? := fun i l hil => by
        have h3 := World.cells?_some hil
        refine ⟨h3.2.1, fun f hf => ?_⟩
        have h4 := h3.2.2 f hf
        obtain ⟨u, hu⟩ : ∃ u, l[f]? = some u := ⟨_, List.getElem?_eq_getElem (by have := h3.2.1; omega)⟩
        rw [hu] at h4 ⊢
        rw [addr_add, addr_add] at h4
        obtain ⟨cur', te', fz', h5, h6⟩ := hcell (i * R.z + f) _ (by rw [← Nat.add_assoc]; exact h4)
        rw [hrow] at h5
        obtain ⟨rfl, _, _⟩ := Obj.cells.inj (Option.some.inj h5)
        rw [← h6, Nat.add_assoc]
      -- the elements, and the data
      have key : ∀ n, n ≤ len → ∃ (L : List (List Value)) (ys : List α), L.length = n ∧ ys.length = n ∧ (∀ c ∈ L, c.length = R.z ∧ ∀ u ∈ c, u.oneCell' = true) ∧ (∀ (i : Nat) c y, L[i]? = some c → ys[i]? = some y → R.is (InH W) (absH W) (c.map (absV W)) y) ∧ (∀ (i : Nat) c, L[i]? = some c → ∀ f, f < R.z → cur[o + i * R.z + f]? = c[f]?) ∧ (∀ y ∈ ys, B y) ∧ (ys.map μ).sum ≤ Rows.uptoBulkAll ((elems.take n).map (·.1)) := by
        intro n
        induction n with
        | zero => exact fun _ => ⟨[], [], rfl, rfl, by simp, by simp, by simp, by simp, by simp⟩
        | succ n ih =>
          intro hn
          obtain ⟨L, ys, h1, h2, h3, h4, h5, h6, h7⟩ := ih (by omega)
          obtain ⟨l, x, e1, e2, e3⟩ := hrd n (by omega)
          have e3 := e3 (by omega)
          have hwx : (x.1.weights P e).all (· ≤ reachBytes) = true := by
            rw [List.all_eq_true] at hw2 ⊢
            intro k hk
            exact hw2 k (weightsAll_mem (List.mem_map.2 ⟨x, List.mem_of_getElem? e3, rfl⟩) k hk)
          obtain ⟨g1, g2, y, g3, g4, g7⟩ := ho.2 _ _ _ e2 hwx
          obtain ⟨g5, g6⟩ := hcur n l e1
          refine ⟨L ++ [l], ys ++ [y], by simp [h1], by simp [h2], fun c hc => ?_, fun i c z hc hz => ?_, fun i c hc => ?_, fun z hz => ?_, ?_⟩
          · rcases List.mem_append.1 hc with hc | hc
            · exact h3 c hc
            · simp at hc; subst hc; exact ⟨g1, g2⟩
          · by_cases hi : i < n
            · rw [List.getElem?_append_left (by omega)] at hc hz
              exact h4 i c z hc hz
            · have := (List.getElem?_eq_some_iff.1 hc).1
              simp only [List.length_append, List.length_singleton] at this
              obtain rfl : i = n := by omega
              rw [List.getElem?_append_right (by omega), h1, Nat.sub_self] at hc
              rw [List.getElem?_append_right (by omega), h2, Nat.sub_self] at hz
              simp at hc hz
              subst hc hz
              exact g3
          · by_cases hi : i < n
            · rw [List.getElem?_append_left (by omega)] at hc
              exact h5 i c hc
            · have := (List.getElem?_eq_some_iff.1 hc).1
              simp only [List.length_append, List.length_singleton] at this
              obtain rfl : i = n := by omega
              rw [List.getElem?_append_right (by omega), h1, Nat.sub_self] at hc
              simp at hc
              subst hc
              exact g6
          · rcases List.mem_append.1 hz with hz | hz
            · exact h6 z hz
            · simp at hz; subst hz; exact g4
          · rw [List.take_add_one, e3, bulkAll_le, List.map_append, List.sum_append]
            simp only [List.map_cons, List.map_nil, List.sum_cons, List.sum_nil, Option.toList_some, Rows.uptoBulkAll]
            omega
      obtain ⟨L, ys, k1, k2, k3, k4, k5, k6, k7⟩ := key len (Nat.le_refl _)
      have hfl : L.flatten.length = len * R.z := by rw [flat_lenV (fun c hc => (k3 c hc).1), k1]
      have hpre : (cur.toList.drop o).take (len * R.z) = L.flatten := by
        apply List.ext_getElem?
        intro j
        by_cases hj : j < len * R.z
        · rw [List.getElem?_take, if_pos hj, List.getElem?_drop, Array.getElem?_toList]
          have hd : j / R.z < len := Nat.div_lt_of_lt_mul (by rw [Nat.mul_comm]; exact hj)
          have hm2 := Nat.mod_lt j h0
          have hdm := Nat.div_add_mod j R.z
          rw [Nat.mul_comm] at hdm
          have hLd : L[j / R.z]? = some L[j / R.z] := List.getElem?_eq_getElem (by omega)
          have h7 := k5 (j / R.z) _ hLd (j % R.z) hm2
          rw [Nat.add_assoc, hdm] at h7
          rw [h7]
          have h8 := flat_getV (fun c hc => (k3 c hc).1) (j / R.z) hLd
          rw [← h8, List.getElem?_take, if_pos hm2, List.getElem?_drop, hdm]
        · rw [List.getElem?_eq_none (by rw [List.length_take]; omega), List.getElem?_eq_none (by omega)]
      have hto : o ≤ cur.size := by
        obtain ⟨hll, hff⟩ := hcur 0 l0 q1
        have := hff 0 h0
        rw [List.getElem?_eq_getElem (by omega)] at this
        have := (Array.getElem?_eq_some_iff.1 this).1
        omega
      have hro : rowO W r = some (cur.toList, te) := by unfold rowO; rw [hrow]
      have hwin : (r, o) ∈ wins W := mem_wins.2 ⟨_, _, hro, by rw [Array.length_toList]; exact hto⟩
      refine ⟨ys, RSl_is.2 ⟨.sl (widx W (r, o)) 0 len (.kn cap), ?_, .mk (L := L.map (·.map (absV W))) ⟨?_, .inr ⟨widx W (r, o), 0, .kn cap, ((cur.toList.drop o).takeWhile (·.oneCell')).map (absV W), by rw [List.length_map, k1], ?_, ?_⟩⟩ (fun b off n cap e => ?_) (fun b off n cap e => ?_) ⟨by rw [List.length_map, k1, k2], fun i c y hc hy => ?_⟩⟩, ⟨by rw [k2]; exact hbig, k6⟩, by rw [List.take_of_length_le (by omega)] at k7; simp only [Rows.uptoBulk]; omega⟩
      · show [absV W (.slice (some ⟨r, o, none⟩) len cap)] = _
        simp only [absV, if_neg hz, if_pos (show (r, o) ∈ wins W ∧ len ≤ cap ∧ cap ≤ maxLen from ⟨hwin, hl, hm⟩)]
      · intro c hc
        obtain ⟨d, hd, rfl⟩ := List.mem_map.1 hc
        rw [List.length_map]
        exact (k3 d hd).1
      · unfold getR
        rw [absH_at hwin]
        simp only [absB, hro]
      · have htw : ((cur.toList.drop o).takeWhile (·.oneCell')).take (len * R.z) = L.flatten := by
          rw [takeWhile_take, hpre]
          intro u hu
          rw [hpre] at hu
          obtain ⟨c, hc, hu⟩ := List.mem_flatten.1 hu
          exact (k3 c hc).2 u hu
        have hlen2 : len * R.z ≤ ((cur.toList.drop o).takeWhile (·.oneCell')).length := by
          have := congrArg List.length htw
          rw [List.length_take, hfl] at this
          omega
        rw [List.length_map, k1]
        unfold cut
        rw [if_pos (by rw [List.length_map]; omega), List.drop_zero, ← List.map_take, htw, List.map_flatten]
      · cases e
        exact at_lt (absH_at hwin)
      · cases e
        exact hl
      · rw [List.getElem?_map] at hc
        obtain ⟨d, hd, rfl⟩ := Option.map_eq_some_iff.1 hc
        exact k4 i d y hd hy
theorem opensA_list {t e : TypeId} {α : Type} {R : Rep α} {B : α → Prop} {by' : Nat} (ht : P.underlying t = some (.slice e)) (hc : P.cellsOf t = 1) (hb : P.bytesOf e = by') (h0 : 0 < R.z) (ho : OpensA enc P W e R B) :
    OpensA enc P W t (RSl R) (fun ys => ys.length * by' ≤ 140737488351232 ∧ ∀ y ∈ ys, B y) := (opensM_list ht hc hb h0 ho).toA
/-! Structs. -/
/-- Values of several types, one behind another. -/
def OpensN (enc : TypeId × Value → H) (P : Program) (W : World) (ts : List TypeId) {α : Type} (R : Rep α) (B : α → Prop) (μ : α → Nat) : Prop :=
  (ts.map P.cellsOf).sum = R.z ∧ ∀ (fuel : Nat) (cs : List Value) (xs : List (DataW H × List MemPlace)), cs.length = R.z → xs.length = ts.length →
    (∀ (i : Nat) t, ts[i]? = some t → DataW.trod enc P W 0 (fun _ => true) true fuel t ((cs.drop ((ts.take i).map P.cellsOf).sum).take (P.cellsOf t)) = xs[i]?) →
    (DataW.weightsEach P ts (xs.map (·.1))).all (· ≤ reachBytes) = true →
    (∀ c ∈ cs, c.oneCell' = true) ∧ ∃ y, R.is (InH W) (absH W) (cs.map (absV W)) y ∧ B y ∧ μ y ≤ Rows.uptoBulkAll (xs.map (·.1))
abbrev OpensL (enc : TypeId × Value → H) (P : Program) (W : World) (ts : List TypeId) {α : Type} (R : Rep α) (B : α → Prop) : Prop := OpensN enc P W ts R B (fun _ => 0)
theorem opensN_one {t : TypeId} {α : Type} {R : Rep α} {B : α → Prop} {μ : α → Nat} (h : OpensM enc P W t R B μ) : OpensN enc P W [t] R B μ := by
  refine ⟨by simp [h.1], fun fuel cs xs hc hx hh hw => ?_⟩
  match xs, hx with
  | [x], _ =>
    have h1 := hh 0 t rfl
    simp only [List.take_zero, List.map_nil, List.sum_nil, List.drop_zero, List.getElem?_cons_zero] at h1
    rw [h.1, ← hc, List.take_length] at h1
    simp only [List.map_cons, List.map_nil, DataW.weightsEach, List.append_nil] at hw
    simp only [List.map_cons, List.map_nil, Rows.uptoBulkAll, Nat.add_zero]
    exact (h.2 _ _ _ h1 hw).2
theorem opensL_one {t : TypeId} {α : Type} {R : Rep α} {B : α → Prop} (h : OpensA enc P W t R B) : OpensL enc P W [t] R B := opensN_one h
theorem opensN_cons {t : TypeId} {ts : List TypeId} {α β : Type} {R : Rep α} {S : Rep β} {B : α → Prop} {C : β → Prop} {μ : α → Nat} {ν : β → Nat} (h : OpensM enc P W t R B μ) (k : OpensN enc P W ts S C ν) : OpensN enc P W (t :: ts) (RPair R S) (fun x => B x.1 ∧ C x.2) (fun x => μ x.1 + ν x.2) := by
  refine ⟨by simp [h.1, k.1, RPair], fun fuel cs xs hc hx hh hw => ?_⟩
  match xs, hx with
  | x :: xs, hx =>
    have hcz : cs.length = R.z + S.z := hc
    have h1 := hh 0 t rfl
    simp only [List.take_zero, List.map_nil, List.sum_nil, List.drop_zero, List.getElem?_cons_zero, h.1] at h1
    simp only [List.map_cons, DataW.weightsEach, List.all_append, Bool.and_eq_true] at hw
    obtain ⟨g1, g2, y, g3, g4, g5⟩ := h.2 _ _ _ h1 hw.1
    obtain ⟨q1, z, q2, q3, q4⟩ := k.2 fuel (cs.drop R.z) xs (by rw [List.length_drop]; omega) (by simpa using hx) (fun i t' ht' => by
      have h2 := hh (i + 1) t' (by simpa using ht')
      rw [List.take_succ_cons, List.map_cons, List.sum_cons, h.1, ← List.drop_drop, List.getElem?_cons_succ] at h2
      exact h2) hw.2
    refine ⟨fun c hc => ?_, (y, z), ⟨(cs.take R.z).map (absV W), (cs.drop R.z).map (absV W), ?_, g3, q2⟩, ⟨g4, q3⟩, by simp only [List.map_cons, Rows.uptoBulkAll]; omega⟩
    · rw [← List.take_append_drop R.z cs] at hc
      exact (List.mem_append.1 hc).elim (g2 c) (q1 c)
    · rw [← List.map_append, List.take_append_drop]
theorem opensL_cons {t : TypeId} {ts : List TypeId} {α β : Type} {R : Rep α} {S : Rep β} {B : α → Prop} {C : β → Prop} (h : OpensA enc P W t R B) (k : OpensL enc P W ts S C) : OpensL enc P W (t :: ts) (RPair R S) (fun x => B x.1 ∧ C x.2) := opensN_cons h k
/-- Do the fields follow one another? -/
def fieldsOk (P : Program) : List Field → Nat → Bool
  | [], _ => true
  | f :: r, k => Nat.beq f.offset k && fieldsOk P r (k + P.cellsOf f.type)
theorem fieldsOk_at : ∀ {fs : List Field} {k : Nat}, fieldsOk P fs k = true → ∀ (i : Nat) f, fs[i]? = some f → f.offset = k + (((fs.map (·.type)).take i).map P.cellsOf).sum
  | [], k, _, i, f, hf => by simp at hf
  | g :: r, k, h, i, f, hf => by
    simp only [fieldsOk, Bool.and_eq_true] at h
    cases i with
    | zero => simp at hf; subst hf; simpa using Nat.eq_of_beq_eq_true h.1
    | succ i =>
      have := fieldsOk_at h.2 i f (by simpa using hf)
      rw [this]
      simp only [List.map_cons, List.take_succ_cons, List.sum_cons]
      omega
theorem opensM_struct {t : TypeId} {fs : Array Field} {ts : List TypeId} {α β : Type} {R : Rep α} {B : α → Prop} {C : β → Prop} {μ : α → Nat} {ν : β → Nat} (f : β → α) (g : α → β) (hfg : ∀ y, f (g y) = y) (ht : P.underlying t = some (.struct fs)) (hts : fs.toList.map (·.type) = ts) (hok : fieldsOk P fs.toList 0 = true) (hc : P.cellsOf t = R.z)
    (h : OpensN enc P W ts R B μ) (hBC : ∀ y, B y → C (g y)) (hmn : ∀ y, ν (g y) ≤ μ y + 1) : OpensM enc P W t (RMap f R) C ν := by
  subst hts
  refine ⟨hc, fun fuel cs x hf hw => ?_⟩
  obtain ⟨xs, n, rfl, rfl, hcs, hxs, hel⟩ := DataW.trod_struct ht hf
  simp only [DataW.weights, ht] at hw
  rw [hc] at hcs
  obtain ⟨q1, y, q2, q3, q4⟩ := h.2 n cs xs hcs (by simpa using hxs) (fun i t' ht' => by
    rw [List.getElem?_map] at ht'
    obtain ⟨fd, hfd, rfl⟩ := Option.map_eq_some_iff.1 ht'
    have := hel i fd (by simpa using hfd)
    rw [fieldsOk_at hok i fd hfd, Nat.zero_add] at this
    exact this) hw
  exact ⟨hcs, q1, g y, by show R.is _ _ _ (f (g y)); rw [hfg]; exact q2, hBC y q3, Nat.le_trans (hmn y) (by simp only [Rows.uptoBulk]; omega)⟩
theorem opensA_struct {t : TypeId} {fs : Array Field} {ts : List TypeId} {α β : Type} {R : Rep α} {B : α → Prop} {C : β → Prop} (f : β → α) (g : α → β) (hfg : ∀ y, f (g y) = y) (ht : P.underlying t = some (.struct fs)) (hts : fs.toList.map (·.type) = ts) (hok : fieldsOk P fs.toList 0 = true) (hc : P.cellsOf t = R.z)
    (h : OpensL enc P W ts R B) (hBC : ∀ y, B y → C (g y)) : OpensA enc P W t (RMap f R) C := opensM_struct f g hfg ht hts hok hc h hBC (fun _ => Nat.zero_le _)
end
section
variable {H : Type} {enc : TypeId × Value → H} {W : World}
end
end Go.Proofs.YtfbpjobjdmmgiaaGreat.Ex
end

section

set_option linter.unusedSimpArgs false
set_option linter.unusedVariables false
namespace Go.Proofs.YtfbpjobjdmmgiaaGreat.Ex
open Go Go.RowKit Go.ChangeShapes Go.WideShapes Go.ChangeAt
def OkOsd (x : OsdD) : Prop := True
def OkPool (x : PoolD) : Prop := True
def OkBkt (x : BktD) : Prop := Sm 8 x.items ∧ Sm 8 x.weights
def OkMp (x : MapD) : Prop := (Sm 40 x.osds ∧ ∀ y ∈ x.osds, OkOsd y) ∧ (Sm 32 x.pools ∧ ∀ y ∈ x.pools, OkPool y) ∧ (Sm 64 x.buckets ∧ ∀ y ∈ x.buckets, OkBkt y)
section
variable {H : Type} {enc : TypeId × Value → H} {W : World}
theorem opensA_Pool : OpensA enc Tryz.prog W 102 RPool OkPool :=
  opensA_struct (ts := [3, 3, 3, 3]) (fun x : PoolD => (x.id, x.size, x.min, x.pgs)) (fun y => ⟨y.1, y.2.1, y.2.2.1, y.2.2.2⟩) (fun y => rfl) Tryz.underlying102 (by rfl) (by kernel_rfl) (by kernel_rfl) (opensL_cons (opensA_int Tryz.underlying3 (by kernel_rfl)) (opensL_cons (opensA_int Tryz.underlying3 (by kernel_rfl)) (opensL_cons (opensA_int Tryz.underlying3 (by kernel_rfl)) (opensL_one (opensA_int Tryz.underlying3 (by kernel_rfl)))))) (fun y ⟨_, _, _, _⟩ => trivial)
end
end Go.Proofs.YtfbpjobjdmmgiaaGreat.Ex
end

section

set_option linter.unusedSimpArgs false
set_option linter.unusedVariables false
set_option maxRecDepth 10000
set_option maxHeartbeats 4000000
namespace Go.Proofs.YtfbpjobjdmmgiaaGreat.Ex
open Go
end Go.Proofs.YtfbpjobjdmmgiaaGreat.Ex
end

section

set_option linter.unusedSimpArgs false
set_option linter.unusedVariables false
set_option maxRecDepth 10000
set_option maxHeartbeats 4000000
namespace Go.Proofs.YtfbpjobjdmmgiaaGreat.Ex
open Go
theorem pool10_x {F : Nat → Prop} {H : AH} {m : MapD} {vo vp vb : AV} (id : Int) (hm : MpAt F H m vo vp vb) (hl : Sm 32 m.pools) :
    WC Tryz.prog (tabOf Tryz.prog NT0) S0 57 [mpV m vo vp vb, .lit (.int .i64 id)] H fun r h' => Ext H.n H h' ∧ r = .tup [poolV (poolG m id), .lit (.bool (poolF m id).isSome)] := by
  refine WC_fn Tryz.func57 rfl rfl ?_
  unfold Sm at hl
  have s1 := hm.p.isSl
  have s2 := hm.p.lenD
  have o1 := hm.o.one
  have o2 := hm.p.one
  have o3 := hm.b.one
  simp only [core, zrA, zrS, zrM, zrL, zrE, reduceCtorEq, zrD, ziE, ziL, ziN, Tryz.ntmps57, mpV, s1, s2, o1, o2, o3]
  obtain ⟨h2, hh2⟩ : ∃ h2, h2 = (H.push (.cells [.lit (.int .i64 m.epoch), vo, vp, vb, .lit (.int .i64 m.leaf)] 69)).push (.cells [.lit (.int .i64 0), .lit (.int .i64 0), .lit (.int .i64 0), .lit (.int .i64 0)] 102) := ⟨_, rfl⟩
  have E0 : Ext H.n H h2 := hh2 ▸ ((Ext.refl _ _).push _ (Nat.le_refl _)).push _ (by rw [n_push]; omega)
  have A0 : h2.at (H.n + 1) = some (.cells [.lit (.int .i64 0), .lit (.int .i64 0), .lit (.int .i64 0), .lit (.int .i64 0)] 102) := hh2 ▸ at_push_n _ _
  have n2 : h2.n = H.n + 2 := by rw [hh2, n_push, n_push]
  rw [← hh2]
  clear hh2
  refine WB_for m.pools.length (fun i t h => Ext h2.n h2 h ∧ poolF m id = (m.pools.drop i).find? (fun b => b.id == id) ∧ t.n = 22 ∧ t.get 1 = .lit (.int .i64 id) ∧ t.get 4 = .ptr (H.n + 1) 0 ∧ t.get 9 = vp ∧ t.get 10 = .lit (.int .i64 m.pools.length) ∧ t.get 11 = .lit (.int .i64 i)) ?_ ?_ _ _ ?_
  · rintro i t h hlt hc ⟨he, hf, hn, g1, g4, g9, g10, g11⟩ ih
    obtain ⟨x, hx⟩ : ∃ x, m.pools[i]? = some x := ⟨_, List.getElem?_eq_getElem hlt⟩
    have E1 : Ext H.n H h := E0.trans (he.mono (by omega))
    obtain ⟨c, hc1, hld, hld0⟩ := hm.p.atE (T := tabOf Tryz.prog NT0) E1 RPool_z hx
    obtain ⟨rfl, -⟩ := RPool_is.1 hc1
    have hws := wrap_succ hlt (by omega)
    rw [find_drop hx] at hf
    have A1 := (he.2 _ (by omega)).trans A0
    have l1 : H.n + 1 < h.n := at_lt A1
    simp only [core, zrA, zrS, zrM, zrL, zrE, reduceCtorEq, zrD, ziE, ziL, ziN, s1, s2, hn, g1, g4, g9, g10, g11, hlt, hc, hld, hld0, hws]
    refine ⟨fun hq => ?_, fun hq => ?_⟩
    · rw [if_pos hq] at hf
      have hG : poolG m id = x := by unfold poolG; rw [hf]; rfl
      simp only [core, zrA, zrS, zrM, zrL, zrE, reduceCtorEq, zrD, ziE, ziL, ziN, hn, g1, g4, g9, g10, g11, A1, l1]
      refine ⟨(E1.put _ (by omega)).push _ (by rw [n_put]; omega), ?_⟩
      rw [hG, hf]
      rfl
    · rw [if_neg (by rw [hq]; decide)] at hf
      refine ih _ _ ⟨he.push _ he.1, hf, ?_⟩
      simp only [core, zrA, zrS, zrM, zrL, zrE, reduceCtorEq, zrD, ziE, ziL, ziN, hn, g1, g4, g9, g10, g11]
  · rintro t h hc ⟨he, hf, hn, g1, g4, g9, g10, g11⟩
    have A1 := (he.2 _ (by omega)).trans A0
    have l1 : H.n + 1 < h.n := at_lt A1
    have E1 : Ext H.n H h := E0.trans (he.mono (by omega))
    have hf : poolF m id = none := by rw [hf, List.drop_length]; rfl
    have hG : poolG m id = pool0 := by unfold poolG; rw [hf]; rfl
    simp only [core, zrA, zrS, zrM, zrL, zrE, reduceCtorEq, zrD, ziE, ziL, ziN, s1, s2, hn, g1, g4, g9, g10, g11, hc, A1, l1, bdM, fillA]
    rw [hG, hf]
    exact ⟨E1.put _ (by omega), rfl⟩
  · simp only [core, zrA, zrS, zrM, zrL, zrE, reduceCtorEq, zrD, ziE, ziL, ziN]
    refine ⟨Ext.refl _ _, rfl, ?_⟩
    (repeat' apply And.intro) <;> first | rfl | trivial
end Go.Proofs.YtfbpjobjdmmgiaaGreat.Ex
end

section

set_option linter.unusedSimpArgs false
set_option linter.unusedVariables false
set_option maxRecDepth 10000
set_option maxHeartbeats 4000000
namespace Go.Proofs.YtfbpjobjdmmgiaaGreat.Ex
open Go
end Go.Proofs.YtfbpjobjdmmgiaaGreat.Ex
end

section

set_option linter.unusedSimpArgs false
set_option linter.unusedVariables false
set_option maxRecDepth 10000
set_option maxHeartbeats 4000000
namespace Go.Proofs.YtfbpjobjdmmgiaaGreat.Ex
open Go
def IdxP (ps : List PoolD) (id : Int) (n : Int) : Prop := (∃ (k : Nat) (q : PoolD), n = (k : Int) ∧ ps[k]? = some q ∧ ps.find? (fun q => q.id == id) = some q) ∨ (n = -1 ∧ ps.find? (fun q => q.id == id) = none)
theorem pick1_x {H : AH} {b : Nat} (q p : PoolD) (hb : H.at b = some (.cells [.lit (.int .i64 p.id), .lit (.int .i64 p.size), .lit (.int .i64 p.min), .lit (.int .i64 p.pgs)] 102)) :
    WC Tryz.prog (tabOf Tryz.prog NT0) S0 64 [poolV q, .ptr b 0] H fun r h' => Ext H.n H h' ∧ r = .lit (.bool (q.id == p.id)) := by
  refine WC_fn Tryz.func64 rfl rfl ?_
  have lb := at_lt hb
  obtain ⟨h0, hh0⟩ : ∃ h0, h0 = H.push (.cells [.lit (.int .i64 q.id), .lit (.int .i64 q.size), .lit (.int .i64 q.min), .lit (.int .i64 q.pgs)] 102) := ⟨_, rfl⟩
  have E0 : Ext H.n H h0 := hh0 ▸ (Ext.refl _ _).push _ (Nat.le_refl _)
  have A1 : h0.at H.n = some (.cells [.lit (.int .i64 q.id), .lit (.int .i64 q.size), .lit (.int .i64 q.min), .lit (.int .i64 q.pgs)] 102) := hh0 ▸ at_push_n _ _
  have A2 := (E0.2 _ lb).trans hb
  have L1 := ld_at (T := tabOf Tryz.prog NT0) A1
  have L2 := ld_at (T := tabOf Tryz.prog NT0) A2
  have l1 := at_lt A1
  have l2 := at_lt A2
  simp only [core, zrA, zrS, zrM, zrL, zrE, reduceCtorEq, zrD, ziE, ziL, ziN, Tryz.ntmps64, poolV, ← hh0, L1, L2, l1, l2]
  first | exact ⟨E0, rfl⟩ | exact E0
theorem idx1_x {F : Nat → Prop} {H : AH} {v : AV} {b : Nat} {ps : List PoolD} (p : PoolD) (hv : IsSl RPool F H v ps) (hl : Sm 32 ps) (hb : H.at b = some (.cells [.lit (.int .i64 p.id), .lit (.int .i64 p.size), .lit (.int .i64 p.min), .lit (.int .i64 p.pgs)] 102)) :
    WC Tryz.prog (tabOf Tryz.prog NT0) S0 63 [v, .fn (.func 64) [] [.ptr b 0]] H fun r h' => Ext H.n H h' ∧ ∃ n, r = .lit (.int .i64 n) ∧ IdxP ps p.id n := by
  refine WC_fn Tryz.func63 rfl rfl ?_
  unfold Sm at hl
  have s1 := hv.isSl
  have s2 := hv.lenD
  simp only [core, zrA, zrS, zrM, zrL, zrE, reduceCtorEq, zrD, ziE, ziL, ziN, Tryz.ntmps63, s1, s2]
  refine WB_for ps.length (fun i t h => Ext H.n H h ∧ ps.find? (fun q => q.id == p.id) = (ps.drop i).find? (fun q => q.id == p.id) ∧ t.n = 19 ∧ t.get 0 = v ∧ t.get 1 = .fn (.func 64) [] [.ptr b 0] ∧ t.get 7 = .lit (.int .i64 ps.length) ∧ t.get 8 = .lit (.int .i64 i)) ?_ ?_ _ _ ?_
  · rintro i t h hlt hc ⟨he, hf, hn, g0, g1, g7, g8⟩ ih
    obtain ⟨x, hx⟩ : ∃ x, ps[i]? = some x := ⟨_, List.getElem?_eq_getElem hlt⟩
    obtain ⟨c, hc1, hld, hld0⟩ := hv.atE (T := tabOf Tryz.prog NT0) he RPool_z hx
    obtain ⟨rfl, -⟩ := RPool_is.1 hc1
    have hws := wrap_succ hlt (by omega)
    rw [find_drop hx] at hf
    simp only [core, zrA, zrS, zrM, zrL, zrE, reduceCtorEq, zrD, ziE, ziL, ziN, s1, s2, hn, g0, g1, g7, g8, hlt, hc, hld, hld0, hws]
    refine (pick1_x x p ((he.2 _ (at_lt hb)).trans hb)).mono ?_
    rintro r h2 ⟨e2, rfl⟩
    have E2 := he.step e2
    cases hq : (x.id == p.id) with
    | true =>
      rw [if_pos hq] at hf
      simp only [core, zrA, zrS, zrM, zrL, zrE, reduceCtorEq, zrD, ziE, ziL, ziN, s1, s2, hn, g0, g1, g7, g8, hlt, hc, hld, hld0, hws, hq]
      first | exact ⟨E2, _, rfl, .inl ⟨i, x, rfl, hx, hf⟩⟩
    | false =>
      rw [if_neg (by rw [hq]; decide)] at hf
      simp only [core, zrA, zrS, zrM, zrL, zrE, reduceCtorEq, zrD, ziE, ziL, ziN, s1, s2, hn, g0, g1, g7, g8, hlt, hc, hld, hld0, hws, hq]
      refine ih _ _ ⟨E2, hf, ?_⟩
      simp only [core, zrA, zrS, zrM, zrL, zrE, reduceCtorEq, zrD, ziE, ziL, ziN, hn, g0, g1, g7, g8]
  · rintro t h hc ⟨he, hf, hn, g0, g1, g7, g8⟩
    simp only [core, zrA, zrS, zrM, zrL, zrE, reduceCtorEq, zrD, ziE, ziL, ziN, s1, s2, hn, g0, g1, g7, g8, hc]
    rw [List.drop_length] at hf
    first | exact ⟨he, _, rfl, .inr ⟨rfl, hf⟩⟩
  · refine ⟨Ext.refl _ _, rfl, ?_⟩
    simp only [core, zrA, zrS, zrM, zrL, zrE, reduceCtorEq, zrD, ziE, ziL, ziN]
    try ((repeat' apply And.intro) <;> first | rfl | trivial)
end Go.Proofs.YtfbpjobjdmmgiaaGreat.Ex
end

section

set_option linter.unusedSimpArgs false
set_option linter.unusedVariables false
set_option maxRecDepth 10000
set_option maxHeartbeats 4000000
namespace Go.Proofs.YtfbpjobjdmmgiaaGreat.Ex
open Go
def poolBad (p : PoolD) : Prop := p.id < 1 ∨ 4 < p.id ∨ p.size < 1 ∨ 8 < p.size ∨ p.min < 1 ∨ p.size < p.min ∨ p.pgs < 1 ∨ 8 < p.pgs
instance (p : PoolD) : Decidable (poolBad p) := by unfold poolBad; infer_instance
def mayPoolF (m : MapD) (p : PoolD) : Int := if poolBad p then 22 else match poolF m p.id with
  | some q => if q.pgs = p.pgs then 0 else 126
  | none => 0
theorem mayPool_x {F : Nat → Prop} {H : AH} {m : MapD} {vo vp vb : AV} (p : PoolD) (hm : MpAt F H m vo vp vb) (hl : Sm 32 m.pools) :
    WC Tryz.prog (tabOf Tryz.prog NT0) S0 47 [mpV m vo vp vb, poolV p] H fun r h' => Ext H.n H h' ∧ r = .lit (.int .i64 (mayPoolF m p)) := by
  refine WC_fn Tryz.func47 rfl rfl ?_
  have o1 := hm.o.one
  have o2 := hm.p.one
  have o3 := hm.b.one
  have s1 := hm.p.isSl
  have s2 := hm.p.lenD
  obtain ⟨h0, hh0⟩ : ∃ h0, h0 = (H.push (.cells [.lit (.int .i64 m.epoch), vo, vp, vb, .lit (.int .i64 m.leaf)] 69)).push (.cells [.lit (.int .i64 p.id), .lit (.int .i64 p.size), .lit (.int .i64 p.min), .lit (.int .i64 p.pgs)] 102) := ⟨_, rfl⟩
  have E0 : Ext H.n H h0 := hh0 ▸ ((Ext.refl _ _).push _ (Nat.le_refl _)).push _ (by rw [n_push]; omega)
  have A1 : h0.at H.n = some (.cells [.lit (.int .i64 m.epoch), vo, vp, vb, .lit (.int .i64 m.leaf)] 69) := hh0 ▸ (at_push_lt _ (by rw [n_push]; omega)).trans (at_push_n _ _)
  have A2 : h0.at (H.n + 1) = some (.cells [.lit (.int .i64 p.id), .lit (.int .i64 p.size), .lit (.int .i64 p.min), .lit (.int .i64 p.pgs)] 102) := hh0 ▸ at_push_n _ _
  have L1 := ld_at (T := tabOf Tryz.prog NT0) A1
  have L2 := ld_at (T := tabOf Tryz.prog NT0) A2
  have l1 := at_lt A1
  have l2 := at_lt A2
  by_cases c1 : p.id < 1
  · have hB : mayPoolF m p = 22 := by unfold mayPoolF; rw [if_pos (by unfold poolBad; omega)]
    rw [hB]
    simp only [core, zrA, zrS, zrM, zrL, zrE, reduceCtorEq, zrD, ziE, ziL, ziN, Tryz.ntmps47, mpV, poolV, o1, o2, o3, ← hh0, L1, L2, l1, l2, c1]
    first | exact ⟨E0, rfl⟩ | exact E0
  by_cases c2 : 4 < p.id
  · have hB : mayPoolF m p = 22 := by unfold mayPoolF; rw [if_pos (by unfold poolBad; omega)]
    rw [hB]
    simp only [core, zrA, zrS, zrM, zrL, zrE, reduceCtorEq, zrD, ziE, ziL, ziN, Tryz.ntmps47, mpV, poolV, o1, o2, o3, ← hh0, L1, L2, l1, l2, c1, c2]
    first | exact ⟨E0, rfl⟩ | exact E0
  by_cases c3 : p.size < 1
  · have hB : mayPoolF m p = 22 := by unfold mayPoolF; rw [if_pos (by unfold poolBad; omega)]
    rw [hB]
    simp only [core, zrA, zrS, zrM, zrL, zrE, reduceCtorEq, zrD, ziE, ziL, ziN, Tryz.ntmps47, mpV, poolV, o1, o2, o3, ← hh0, L1, L2, l1, l2, c1, c2, c3]
    first | exact ⟨E0, rfl⟩ | exact E0
  by_cases c4 : 8 < p.size
  · have hB : mayPoolF m p = 22 := by unfold mayPoolF; rw [if_pos (by unfold poolBad; omega)]
    rw [hB]
    simp only [core, zrA, zrS, zrM, zrL, zrE, reduceCtorEq, zrD, ziE, ziL, ziN, Tryz.ntmps47, mpV, poolV, o1, o2, o3, ← hh0, L1, L2, l1, l2, c1, c2, c3, c4]
    first | exact ⟨E0, rfl⟩ | exact E0
  by_cases c5 : p.min < 1
  · have hB : mayPoolF m p = 22 := by unfold mayPoolF; rw [if_pos (by unfold poolBad; omega)]
    rw [hB]
    simp only [core, zrA, zrS, zrM, zrL, zrE, reduceCtorEq, zrD, ziE, ziL, ziN, Tryz.ntmps47, mpV, poolV, o1, o2, o3, ← hh0, L1, L2, l1, l2, c1, c2, c3, c4, c5]
    first | exact ⟨E0, rfl⟩ | exact E0
  by_cases c6 : p.size < p.min
  · have hB : mayPoolF m p = 22 := by unfold mayPoolF; rw [if_pos (by unfold poolBad; omega)]
    rw [hB]
    simp only [core, zrA, zrS, zrM, zrL, zrE, reduceCtorEq, zrD, ziE, ziL, ziN, Tryz.ntmps47, mpV, poolV, o1, o2, o3, ← hh0, L1, L2, l1, l2, c1, c2, c3, c4, c5, c6]
    first | exact ⟨E0, rfl⟩ | exact E0
  by_cases c7 : p.pgs < 1
  · have hB : mayPoolF m p = 22 := by unfold mayPoolF; rw [if_pos (by unfold poolBad; omega)]
    rw [hB]
    simp only [core, zrA, zrS, zrM, zrL, zrE, reduceCtorEq, zrD, ziE, ziL, ziN, Tryz.ntmps47, mpV, poolV, o1, o2, o3, ← hh0, L1, L2, l1, l2, c1, c2, c3, c4, c5, c6, c7]
    first | exact ⟨E0, rfl⟩ | exact E0
  by_cases c8 : 8 < p.pgs
  · have hB : mayPoolF m p = 22 := by unfold mayPoolF; rw [if_pos (by unfold poolBad; omega)]
    rw [hB]
    simp only [core, zrA, zrS, zrM, zrL, zrE, reduceCtorEq, zrD, ziE, ziL, ziN, Tryz.ntmps47, mpV, poolV, o1, o2, o3, ← hh0, L1, L2, l1, l2, c1, c2, c3, c4, c5, c6, c7, c8]
    first | exact ⟨E0, rfl⟩ | exact E0
  have hB : mayPoolF m p = match poolF m p.id with
    | some q => if q.pgs = p.pgs then 0 else 126
    | none => 0 := by unfold mayPoolF; rw [if_neg (by unfold poolBad; omega)]
  rw [hB]
  simp only [core, zrA, zrS, zrM, zrL, zrE, reduceCtorEq, zrD, ziE, ziL, ziN, Tryz.ntmps47, mpV, poolV, o1, o2, o3, ← hh0, L1, L2, l1, l2, c1, c2, c3, c4, c5, c6, c7, c8]
  refine (idx1_x p (hm.p.ext E0 (Nat.le_refl _)) hl A2).mono ?_
  rintro r h2 ⟨e2, n, rfl, hI⟩
  have E2 := E0.step e2
  have B1 := (e2.2 _ l1).trans A1
  have B2 := (e2.2 _ l2).trans A2
  have LB1 := ld_at (T := tabOf Tryz.prog NT0) B1
  have LB2 := ld_at (T := tabOf Tryz.prog NT0) B2
  have lb1 := at_lt B1
  have lb2 := at_lt B2
  rcases hI with ⟨k, q, rfl, hk, hf⟩ | ⟨rfl, hf⟩
  · have hF : poolF m p.id = some q := hf
    rw [hF]
    obtain ⟨c, hc1, hld, hld0⟩ := hm.p.atE (T := tabOf Tryz.prog NT0) E2 RPool_z hk
    obtain ⟨rfl, -⟩ := RPool_is.1 hc1
    have hlt := (List.getElem?_eq_some_iff.1 hk).1
    have hk0 : (0 : Int) ≤ (k : Int) := by omega
    have hn0 : ¬ (k : Int) < 0 := by omega
    simp only [core, zrA, zrS, zrM, zrL, zrE, reduceCtorEq, zrD, ziE, ziL, ziN]
    rw [WB_regionD [0, 1, 2, 3, 4, 5, 6, 7, 8, 9, 10, 11, 12] 374075900823516023695234415374324642402377951879168 (by kernel_rfl)]
    by_cases cq : q.pgs = p.pgs
    · have cqn : (q.pgs != p.pgs) = false := by simp [cq]
      have cqe : (q.pgs == p.pgs) = true := by simp [cq]
      repeat ((with_reducible refine WDM_cons ?_; simp only [dw1]; try simp only [dw2, zrA, zrM, zrR, zrO, zrE]); simp only [core, zrA, zrS, zrM, zrL, zrE, reduceCtorEq, zrD, ziE, ziL, ziN, cored, s1, s2, LB1, LB2, lb1, lb2, hk0, hn0, hlt, hld, hld0, cqn, cqe])
      simp only [if_pos cq]
      first | exact ⟨E2, rfl⟩ | exact ⟨E2, trivial⟩ | exact E2
    · have cqn : (q.pgs != p.pgs) = true := by simp [cq]
      have cqe : (q.pgs == p.pgs) = false := by simp [cq]
      repeat ((with_reducible refine WDM_cons ?_; simp only [dw1]; try simp only [dw2, zrA, zrM, zrR, zrO, zrE]); simp only [core, zrA, zrS, zrM, zrL, zrE, reduceCtorEq, zrD, ziE, ziL, ziN, cored, s1, s2, LB1, LB2, lb1, lb2, hk0, hn0, hlt, hld, hld0, cqn, cqe])
      simp only [if_neg cq]
      first | exact ⟨E2, rfl⟩ | exact ⟨E2, trivial⟩ | exact E2
  · have hF : poolF m p.id = none := hf
    rw [hF]
    simp only [core, zrA, zrS, zrM, zrL, zrE, reduceCtorEq, zrD, ziE, ziL, ziN]
    rw [WB_regionD [0, 1, 2, 3, 4, 5, 6, 7, 8, 9, 10, 11, 12] 374075900823516023695234415374324642402377951879168 (by kernel_rfl)]
    repeat ((with_reducible refine WDM_cons ?_; simp only [dw1]; try simp only [dw2, zrA, zrM, zrR, zrO, zrE]); simp only [core, zrA, zrS, zrM, zrL, zrE, reduceCtorEq, zrD, ziE, ziL, ziN, cored, s1, s2, LB1, LB2, lb1, lb2])
    first | exact ⟨E2, rfl⟩ | exact ⟨E2, trivial⟩ | exact E2
end Go.Proofs.YtfbpjobjdmmgiaaGreat.Ex
end

section

set_option linter.unusedSimpArgs false
set_option linter.unusedVariables false
set_option maxRecDepth 10000
set_option maxHeartbeats 4000000
namespace Go.Proofs.YtfbpjobjdmmgiaaGreat.Ex
open Go
/-- A row of buckets of the run's own. -/
abbrev OwnK (n0 : Nat) (h : AH) (v : AV) (xs : List BktD) : Prop := OwnL RBkt (fun k => n0 ≤ k) n0 h v 109 xs
theorem push_bkt {n0 q : Nat} {h h3 : AH} {v ra rw1 : AV} {xs : List BktD} {x : BktD} {cap : Cap} {e' : TypeId} (ho : OwnK n0 h v xs) (hn0 : n0 ≤ h.n) (e : Ext h.n h h3) (A : h3.at q = some (.cells [.lit (.int .i64 x.id), .lit (.int .i64 x.kind), ra, rw1] e'))
    (r1 : OwnE RInt h.n h3 ra 3 x.items) (r2 : OwnE RInt h.n h3 rw1 3 x.weights) (hi : I64 x.id ∧ I64 x.kind) (hl : (xs.length + 1) * 64 ≤ 140737488355328) :
    ∃ s' h', appendA (tabOf Tryz.prog NT0) h3 67 67 v (.sl q 0 1 cap) = some (s', h') ∧ OwnK n0 h' s' (xs ++ [x]) ∧ Fr h v h' s' := by
  have e1 := e.1
  obtain ⟨s', h', a, b, c, d⟩ := (ho.ext e (Nat.le_refl _)).snoc (T := tabOf Tryz.prog NT0) (t := 67) (tx := 67) (y := x) (cap := cap) (by kernel_rfl) (by kernel_rfl) (by kernel_rfl) (zv := .agg [.lit (.int .i64 0), .lit (.int .i64 0), .lit (.slice none 0 0), .lit (.slice none 0 0)]) (by kernel_rfl) (by' := 64) (by kernel_rfl) rfl (by decide) (by decide) A
    (RBkt_is.2 ⟨ra, rw1, rfl, r1.toSl fun k hk => ⟨by omega, OwnL.apart ho hk⟩, r2.toSl fun k hk => ⟨by omega, OwnL.apart ho hk⟩, hi.1, hi.2⟩) (by omega) hl (by omega)
  exact ⟨s', h', a, b, (Fr.ext e).trans ⟨c.1, d⟩⟩
def wbStep (b : BktD) (s : List BktD × Bool) (c : BktD) : List BktD × Bool :=
  let s1 := if s.2 = false ∧ c.id ≤ b.id then (s.1 ++ [b], true) else s
  if c.id = b.id then s1 else (s1.1 ++ [c], s1.2)
def wbL (l : List BktD) (b : BktD) : List BktD :=
  let s := l.foldl (wbStep b) ([], decide (b.items.length = 0))
  if s.2 then s.1 else s.1 ++ [b]
theorem fold_succ {α β : Type} (f : β → α → β) (z : β) {l : List α} {i : Nat} {x : α} (hx : l[i]? = some x) : (l.take (i + 1)).foldl f z = f ((l.take i).foldl f z) x := by
  rw [List.take_add_one, hx, List.foldl_append]
  rfl
end Go.Proofs.YtfbpjobjdmmgiaaGreat.Ex
end

section

set_option linter.unusedSimpArgs false
set_option linter.unusedVariables false
set_option maxRecDepth 10000
set_option maxHeartbeats 4000000
namespace Go.Proofs.YtfbpjobjdmmgiaaGreat.Ex
open Go
def growO (l : List OsdD) (n : Nat) : List OsdD := l ++ List.replicate (n + 1 - l.length) osd0
def setO (m : MapD) (n : Nat) (o : OsdD) : MapD := { m with osds := (growO m.osds n).set n o }
def newOs (epoch : Int) (o : OsdD) (kind value : Int) : OsdD :=
  if kind = 1 then ⟨true, true, if o.ex then o.weight else 65536, value, IntKind.i64.wrap (epoch + 1), o.upThru⟩
  else if kind = 2 then ⟨o.ex, false, o.weight, o.boot, o.upFrom, o.upThru⟩
  else if kind = 3 then ⟨o.ex, o.up, value, o.boot, o.upFrom, o.upThru⟩
  else ⟨o.ex, o.up, o.weight, o.boot, o.upFrom, value⟩
def insP : List PoolD → PoolD → List PoolD
  | [], p => [p]
  | q :: r, p => if q.id < p.id then q :: insP r p else if q.id = p.id then p :: r else p :: q :: r
def withB (m : MapD) (b : BktD) : MapD := { m with buckets := wbL m.buckets b }
def mayBktF (m : MapD) (b : BktD) : Int :=
  if b.id < -32 ∨ -1 < b.id then 22 else if (bucketF m b.id).isNone = true ∧ b.items = [] then 2 else if goodF (withB m b) then 0 else 22
def isOs (kind : Int) : Prop := kind = 1 ∨ kind = 2 ∨ kind = 3 ∨ kind = 4
instance (k : Int) : Decidable (isOs k) := by unfold isOs; infer_instance
def chMay (m : MapD) (c : ChD) : Int :=
  if isOs c.kind then (if c.osd < 0 ∨ 8 ≤ c.osd then 22 else mayOsdF m c)
  else if c.kind = 5 then mayPoolF m c.pool
  else if c.kind = 6 then mayBktF m c.bucket
  else if c.kind = 7 then (if c.value < 0 ∨ 3 < c.value then 22 else 0)
  else 22
def chMade (m : MapD) (c : ChD) : MapD :=
  if c.kind = 5 then { m with pools := insP m.pools c.pool }
  else if c.kind = 6 then withB m c.bucket
  else if c.kind = 7 then { m with leaf := c.value }
  else setO m c.osd.toNat (newOs m.epoch (osdG m c.osd) c.kind c.value)
def map0 : MapD := ⟨0, [], [], [], 0⟩
def applyC : MapD → List ChD → MapD × Int
  | m, [] => (m, 0)
  | m, c :: r => if chMay m c = 0 then applyC (chMade m c) r else (map0, chMay m c)
def applyD (m : MapD) (x : IncD) : MapD × Int :=
  if m.epoch = 9223372036854775807 ∨ ¬ x.epoch = m.epoch + 1 then (map0, 126)
  else if (applyC m x.changes).2 = 0 then ({ (applyC m x.changes).1 with epoch := x.epoch }, 0) else (map0, (applyC m x.changes).2)
def playC : List MapD → List IncD → List MapD × Int
  | l, [] => (l, 0)
  | l, x :: r => if (applyD (l.getLastD map0) x).2 = 0 then playC (l ++ [(applyD (l.getLastD map0) x).1]) r else ([], (applyD (l.getLastD map0) x).2)
def playD (l : List IncD) : List MapD × Int := playC [map0] l
/-! What is kept along changes. -/
def OsOk (o : OsdD) : Prop := o.ex = true ∨ (o.boot = 0 ∧ o.upThru = 0)
def Rise (a b : List OsdD) : Prop := a.length ≤ b.length ∧ ∀ k, (a.getD k osd0).boot ≤ (b.getD k osd0).boot ∧ (a.getD k osd0).upThru ≤ (b.getD k osd0).upThru
theorem Rise.refl (a : List OsdD) : Rise a a := ⟨Nat.le_refl _, fun k => ⟨Int.le_refl _, Int.le_refl _⟩⟩
theorem Rise.trans {a b c : List OsdD} (h : Rise a b) (k : Rise b c) : Rise a c := ⟨Nat.le_trans h.1 k.1, fun i => ⟨Int.le_trans (h.2 i).1 (k.2 i).1, Int.le_trans (h.2 i).2 (k.2 i).2⟩⟩
theorem grow_len (l : List OsdD) (n : Nat) : (growO l n).length = max l.length (n + 1) := by
  unfold growO
  rw [List.length_append, List.length_replicate]
  omega
theorem grow_get (l : List OsdD) (n k : Nat) : (growO l n).getD k osd0 = l.getD k osd0 := by
  unfold growO
  rw [List.getD_eq_getElem?_getD, List.getD_eq_getElem?_getD]
  by_cases hk : k < l.length
  · rw [List.getElem?_append_left hk]
  · rw [List.getElem?_append_right (by omega), List.getElem?_eq_none (Nat.not_lt.1 hk)]
    by_cases h2 : k - l.length < n + 1 - l.length
    · rw [List.getElem?_replicate_of_lt h2]
      rfl
    · rw [List.getElem?_eq_none (by rw [List.length_replicate]; omega)]
theorem set_get (l : List OsdD) (n k : Nat) (o : OsdD) : ((growO l n).set n o).getD k osd0 = if k = n then o else l.getD k osd0 := by
  by_cases hk : k = n
  · subst hk
    rw [if_pos rfl, List.getD_eq_getElem?_getD, List.getElem?_set_self (by rw [grow_len]; omega)]
    rfl
  · rw [if_neg hk, ← grow_get l n k, List.getD_eq_getElem?_getD, List.getElem?_set_ne (by omega), ← List.getD_eq_getElem?_getD]
theorem set_len (l : List OsdD) (n : Nat) (o : OsdD) : ((growO l n).set n o).length = max l.length (n + 1) := by rw [List.length_set, grow_len]
def OsAll (l : List OsdD) : Prop := ∀ k, OsOk (l.getD k osd0)
theorem os_all0 : OsAll [] := fun k => .inr ⟨rfl, rfl⟩
theorem osdG_get {m : MapD} {n : Int} (h : 0 ≤ n) : osdG m n = m.osds.getD n.toNat osd0 := by unfold osdG; rw [if_pos h]
theorem newOs_ok {e : Int} {o : OsdD} {kind value : Int} (ki : isOs kind) (hk : OsOk o) (hm : mayOs e o kind value = 0) : OsOk (newOs e o kind value) ∧ o.boot ≤ (newOs e o kind value).boot ∧ o.upThru ≤ (newOs e o kind value).upThru := by
  obtain ⟨ex, up, w, b, uf, ut⟩ := o
  unfold OsOk at hk ⊢
  unfold mayOs at hm
  unfold newOs
  rcases ki with rfl | rfl | rfl | rfl <;> cases ex <;> simp at hm hk ⊢
  all_goals (try omega)
  all_goals (try (split at hm <;> (try cases hm)))
  all_goals (try omega)
  all_goals (try (split at hm <;> (try cases hm)))
  all_goals (try omega)
  all_goals (try (split at hm <;> (try cases hm)))
  all_goals (try omega)
theorem made_rise {m : MapD} {c : ChD} (h : OsAll m.osds) (hm : chMay m c = 0) : OsAll (chMade m c).osds ∧ Rise m.osds (chMade m c).osds := by
  unfold chMay at hm
  unfold chMade
  by_cases k5 : c.kind = 5
  · rw [if_pos k5]; exact ⟨h, Rise.refl _⟩
  by_cases k6 : c.kind = 6
  · rw [if_neg k5, if_pos k6]; exact ⟨h, Rise.refl _⟩
  by_cases k7 : c.kind = 7
  · rw [if_neg k5, if_neg k6, if_pos k7]; exact ⟨h, Rise.refl _⟩
  rw [if_neg k5, if_neg k6, if_neg k7] at hm ⊢
  by_cases ki : isOs c.kind
  · rw [if_pos ki] at hm
    by_cases ho : c.osd < 0 ∨ 8 ≤ c.osd
    · rw [if_pos ho] at hm; cases hm
    rw [if_neg ho] at hm
    have h0 : 0 ≤ c.osd := by omega
    unfold mayOsdF at hm
    rw [osdG_get h0] at hm ⊢
    have hk := h c.osd.toNat
    obtain ⟨o, ho'⟩ : ∃ o, o = m.osds.getD c.osd.toNat osd0 := ⟨_, rfl⟩
    rw [← ho'] at hm hk ⊢
    have key := newOs_ok (e := m.epoch) ki hk hm
    refine ⟨fun k => ?_, ?_, fun k => ?_⟩
    · show OsOk (((growO m.osds _).set _ _).getD k osd0)
      rw [set_get]
      split
      · exact key.1
      · exact h k
    · show _ ≤ ((growO m.osds _).set _ _).length
      rw [set_len]; omega
    · show _ ≤ (((growO m.osds _).set _ _).getD k osd0).boot ∧ _ ≤ (((growO m.osds _).set _ _).getD k osd0).upThru
      rw [set_get]
      split
      · rename_i hh; subst hh; rw [← ho']; exact key.2
      · exact ⟨Int.le_refl _, Int.le_refl _⟩
  · rw [if_neg ki] at hm
    cases hm
theorem kindF_congr {m n : MapD} (hb : m.buckets = n.buckets) : kindF m = kindF n := by
  funext i
  unfold kindF bucketG bucketF
  rw [hb]
theorem good_congr {m n : MapD} (hb : m.buckets = n.buckets) (hl : m.leaf = n.leaf) : goodF m = goodF n := by
  have h1 : itemOk m = itemOk n := by
    funext its b k
    unfold itemOk
    rw [kindF_congr hb]
  have h2 : bOk m = bOk n := by
    funext i b
    unfold bOk hdOk itsTo
    rw [h1, hb]
  unfold goodF
  rw [h2, hb, hl]
theorem good_leaf {m : MapD} {v : Int} (h : goodF m = true) (h0 : ¬ (v < 0 ∨ 3 < v)) : goodF { m with leaf := v } = true := by
  have h1 : goodF { m with leaf := v } = (decide (0 ≤ v) && decide (v ≤ 3) && (List.range m.buckets.length).all (fun i => bOk m i (m.buckets.getD i bkt0))) := by
    unfold goodF
    congr 1
  rw [h1]
  unfold goodF at h
  simp only [Bool.and_eq_true, decide_eq_true_eq] at h ⊢
  exact ⟨⟨by omega, by omega⟩, h.2⟩
theorem good_w {m : MapD} (h : goodF m = true) {b : BktD} (hb : b ∈ m.buckets) : b.items.length = b.weights.length := by
  unfold goodF at h
  simp only [Bool.and_eq_true, List.all_eq_true] at h
  obtain ⟨i, hi, rfl⟩ := List.mem_iff_getElem.1 hb
  have := h.2 i (List.mem_range.2 hi)
  rw [List.getD_eq_getElem?_getD, List.getElem?_eq_getElem hi] at this
  unfold bOk hdOk at this
  simp only [Bool.and_eq_true, Option.getD_some, beq_iff_eq] at this
  exact this.1.1.2
theorem wbStep_ok {b : BktD} {s : List BktD × Bool} {c : BktD} {P : BktD → Prop} (hb : P b) (hc : P c) (hs : ∀ x ∈ s.1, P x) : ∀ x ∈ (wbStep b s c).1, P x := by
  unfold wbStep
  intro x hx
  dsimp only at hx
  by_cases h1 : s.2 = false ∧ c.id ≤ b.id
  · rw [if_pos h1] at hx
    by_cases h2 : c.id = b.id
    · rw [if_pos h2] at hx
      simp only [List.mem_append, List.mem_singleton] at hx
      rcases hx with hx | rfl
      · exact hs x hx
      · exact hb
    · rw [if_neg h2] at hx
      simp only [List.mem_append, List.mem_singleton] at hx
      rcases hx with (hx | rfl) | rfl
      · exact hs x hx
      · exact hb
      · exact hc
  · rw [if_neg h1] at hx
    by_cases h2 : c.id = b.id
    · rw [if_pos h2] at hx
      exact hs x hx
    · rw [if_neg h2] at hx
      simp only [List.mem_append, List.mem_singleton] at hx
      rcases hx with hx | rfl
      · exact hs x hx
      · exact hc
theorem wbFold_ok {b : BktD} {P : BktD → Prop} (hb : P b) : ∀ (l : List BktD) (s : List BktD × Bool), (∀ x ∈ l, P x) → (∀ x ∈ s.1, P x) → ∀ x ∈ (l.foldl (wbStep b) s).1, P x
  | [], s, _, hs => hs
  | c :: r, s, hl, hs => wbFold_ok hb r _ (fun x hx => hl x (by simp [hx])) (wbStep_ok hb (hl c (by simp)) hs)
theorem wbL_ok {l : List BktD} {b : BktD} {P : BktD → Prop} (hb : P b) (hl : ∀ x ∈ l, P x) : ∀ x ∈ wbL l b, P x := by
  unfold wbL
  have h := wbFold_ok hb l ([], decide (b.items.length = 0)) hl (fun x hx => by cases hx)
  intro x hx
  dsimp only at hx
  split at hx
  · exact h x hx
  · rw [List.mem_append, List.mem_singleton] at hx
    rcases hx with hx | rfl
    · exact h x hx
    · exact hb
def nB : Bool → Nat
  | true => 0
  | false => 1
theorem nB_le (p : Bool) : nB p ≤ 1 := by cases p <;> simp [nB]
theorem wbStep_len {b : BktD} {s : List BktD × Bool} {c : BktD} : (wbStep b s c).1.length + nB (wbStep b s c).2 ≤ s.1.length + nB s.2 + 1 := by
  obtain ⟨l, p⟩ := s
  unfold wbStep
  dsimp only
  by_cases h1 : p = false ∧ c.id ≤ b.id
  · rw [if_pos h1, h1.1]
    by_cases h2 : c.id = b.id
    · rw [if_pos h2]; simp [nB]
    · rw [if_neg h2]; simp [nB]
  · rw [if_neg h1]
    by_cases h2 : c.id = b.id
    · rw [if_pos h2]; simp
    · rw [if_neg h2]; simp; omega
theorem wbFold_len {b : BktD} : ∀ (l : List BktD) (s : List BktD × Bool), (l.foldl (wbStep b) s).1.length + nB (l.foldl (wbStep b) s).2 ≤ s.1.length + nB s.2 + l.length
  | [], s => Nat.le_refl _
  | c :: r, s => by
    have h1 := wbFold_len (b := b) r (wbStep b s c)
    have h2 := wbStep_len (b := b) (s := s) (c := c)
    rw [List.foldl_cons, List.length_cons]
    omega
theorem wbL_len (l : List BktD) (b : BktD) : (wbL l b).length ≤ l.length + 1 := by
  unfold wbL
  have h := wbFold_len (b := b) l ([], decide (b.items.length = 0))
  have h0 := nB_le (decide (b.items.length = 0))
  simp only [List.length_nil] at h
  dsimp only
  split
  · omega
  · rename_i hh
    have hh : (l.foldl (wbStep b) ([], decide (b.items.length = 0))).2 = false := by simpa using hh
    rw [hh] at h
    rw [List.length_append, List.length_singleton]
    have h1 : nB false = 1 := rfl
    omega
theorem insP_len : ∀ (l : List PoolD) (p : PoolD), (insP l p).length ≤ l.length + 1
  | [], p => Nat.le_refl _
  | q :: r, p => by
    have := insP_len r p
    unfold insP
    split
    · simp only [List.length_cons]; omega
    · split <;> simp only [List.length_cons] <;> omega
structure StOk (m : MapD) (k : Nat) : Prop where
  os : OsAll m.osds
  good : goodF m = true
  no : m.osds.length ≤ 8
  np : m.pools.length ≤ k
  nb : m.buckets.length ≤ k
  ni : ∀ b ∈ m.buckets, b.items.length ≤ 1048576 ∧ b.weights.length ≤ 1048576
theorem made_st {m : MapD} {c : ChD} {k : Nat} (h : StOk m k) (hi : c.bucket.items.length ≤ 1048576) (hm : chMay m c = 0) : StOk (chMade m c) (k + 1) := by
  have hr := made_rise h.os hm
  have hg : goodF (chMade m c) = true := by
    unfold chMay at hm
    unfold chMade
    by_cases k5 : c.kind = 5
    · rw [if_pos k5]; exact (good_congr rfl rfl).trans h.good
    by_cases k6 : c.kind = 6
    · rw [if_neg k5, if_pos k6]
      rw [if_neg (by unfold isOs; omega), if_neg k5, if_pos k6] at hm
      unfold mayBktF at hm
      split at hm
      · cases hm
      · split at hm
        · cases hm
        · split at hm
          · rename_i hh; exact hh
          · cases hm
    by_cases k7 : c.kind = 7
    · rw [if_neg k5, if_neg k6, if_pos k7]
      rw [if_neg (by unfold isOs; omega), if_neg k5, if_neg k6, if_pos k7] at hm
      refine good_leaf h.good fun hh => ?_
      rw [if_pos hh] at hm
      cases hm
    rw [if_neg k5, if_neg k6, if_neg k7]
    exact (good_congr rfl rfl).trans h.good
  refine ⟨hr.1, hg, ?_, ?_, ?_, ?_⟩
  · unfold chMay at hm
    have := h.no
    unfold chMade
    split
    · exact h.no
    split
    · exact h.no
    split
    · exact h.no
    · show ((growO _ _).set _ _).length ≤ _
      rw [set_len]
      by_cases ki : isOs c.kind
      · rw [if_pos ki] at hm
        by_cases ho : c.osd < 0 ∨ 8 ≤ c.osd
        · rw [if_pos ho] at hm; cases hm
        · omega
      · rw [if_neg ki, if_neg ‹_›, if_neg ‹_›, if_neg ‹_›] at hm
        cases hm
  · unfold chMade
    have := insP_len m.pools c.pool
    have := h.np
    split
    · show (insP _ _).length ≤ _; omega
    split
    · show m.pools.length ≤ _; omega
    split
    · show m.pools.length ≤ _; omega
    · show m.pools.length ≤ _; omega
  · unfold chMade
    have := wbL_len m.buckets c.bucket
    have := h.nb
    split
    · show m.buckets.length ≤ _; omega
    split
    · show (wbL _ _).length ≤ _; omega
    split
    · show m.buckets.length ≤ _; omega
    · show m.buckets.length ≤ _; omega
  · have key : ∀ b ∈ (chMade m c).buckets, b.items.length ≤ 1048576 := by
      unfold chMade
      split
      · exact fun b hb => (h.ni b hb).1
      split
      · exact wbL_ok (P := fun b => b.items.length ≤ 1048576) hi fun b hb => (h.ni b hb).1
      split
      · exact fun b hb => (h.ni b hb).1
      · exact fun b hb => (h.ni b hb).1
    exact fun b hb => ⟨key b hb, by rw [← good_w hg hb]; exact key b hb⟩
theorem made_epoch (m : MapD) (c : ChD) : (chMade m c).epoch = m.epoch := by
  unfold chMade
  split
  · rfl
  split
  · rfl
  split <;> rfl
theorem applyC_st : ∀ {l : List ChD} {m : MapD} {k : Nat}, StOk m k → (∀ c ∈ l, c.bucket.items.length ≤ 1048576) → (applyC m l).2 = 0 → StOk (applyC m l).1 (k + l.length) ∧ Rise m.osds (applyC m l).1.osds ∧ (applyC m l).1.epoch = m.epoch
  | [], m, k, h, _, _ => ⟨h, Rise.refl _, rfl⟩
  | c :: r, m, k, h, hi, h0 => by
    unfold applyC at h0 ⊢
    by_cases hm : chMay m c = 0
    · rw [if_pos hm] at h0 ⊢
      have h1 := made_st h (hi c (by simp)) hm
      obtain ⟨a, b, d⟩ := applyC_st h1 (fun c hc => hi c (by simp [hc])) h0
      refine ⟨?_, (made_rise h.os hm).2.trans b, d.trans (made_epoch m c)⟩
      rw [List.length_cons, show k + (r.length + 1) = k + 1 + r.length by omega]
      exact a
    · rw [if_neg hm] at h0
      exact absurd h0 hm
theorem StOk.mono {m : MapD} {k k' : Nat} (h : StOk m k) (hk : k ≤ k') : StOk m k' := ⟨h.os, h.good, h.no, by have := h.np; omega, by have := h.nb; omega, h.ni⟩
theorem applyD_st {m : MapD} {x : IncD} {k : Nat} (h : StOk m k) (hi : ∀ c ∈ x.changes, c.bucket.items.length ≤ 1048576) (h0 : (applyD m x).2 = 0) :
    StOk (applyD m x).1 (k + x.changes.length) ∧ Rise m.osds (applyD m x).1.osds ∧ (applyD m x).1.epoch = m.epoch + 1 := by
  unfold applyD at h0 ⊢
  by_cases he : m.epoch = 9223372036854775807 ∨ ¬ x.epoch = m.epoch + 1
  · rw [if_pos he] at h0; cases h0
  rw [if_neg he] at h0 ⊢
  by_cases ha : (applyC m x.changes).2 = 0
  · rw [if_pos ha] at h0 ⊢
    obtain ⟨a, b, c⟩ := applyC_st h hi ha
    exact ⟨⟨a.os, (good_congr rfl rfl).trans a.good, a.no, a.np, a.nb, a.ni⟩, b, by show x.epoch = _; omega⟩
  · rw [if_neg ha] at h0
    exact absurd h0 ha
structure PlOk (l : List MapD) (k : Nat) : Prop where
  ne : l ≠ []
  st : ∀ (i : Nat) m, l[i]? = some m → m.epoch = (i : Int) ∧ StOk m k
  ri : ∀ (i : Nat) m m', l[i]? = some m → l[i + 1]? = some m' → Rise m.osds m'.osds
theorem plOk0 : PlOk [map0] 0 := by
  refine ⟨by simp, fun i m hm => ?_, fun i m m' _ h2 => ?_⟩
  · cases i with
    | zero => cases hm; exact ⟨rfl, os_all0, rfl, Nat.zero_le _, Nat.le_refl _, Nat.le_refl _, fun b hb => by cases hb⟩
    | succ i => simp at hm
  · simp at h2
theorem last_get {l : List MapD} (h : l ≠ []) : l[l.length - 1]? = some (l.getLastD map0) := by
  rw [← List.getLast?_eq_getElem?, List.getLastD_eq_getLast?]
  cases hq : l.getLast? with
  | none => exact absurd (List.getLast?_eq_none_iff.1 hq) h
  | some x => rfl
theorem PlOk.snoc {l : List MapD} {k : Nat} (h : PlOk l k) {x : IncD} (hi : ∀ c ∈ x.changes, c.bucket.items.length ≤ 1048576) (h0 : (applyD (l.getLastD map0) x).2 = 0) : PlOk (l ++ [(applyD (l.getLastD map0) x).1]) (k + x.changes.length) := by
  have hl := last_get h.ne
  have hp : 0 < l.length := List.length_pos_iff.2 h.ne
  obtain ⟨he, hs⟩ := h.st _ _ hl
  obtain ⟨a, b, c⟩ := applyD_st hs hi h0
  refine ⟨by simp, fun i m hm => ?_, fun i m m' h1 h2 => ?_⟩
  · by_cases hi : i < l.length
    · rw [List.getElem?_append_left hi] at hm
      exact ⟨(h.st i m hm).1, (h.st i m hm).2.mono (by omega)⟩
    · by_cases hi2 : i = l.length
      · subst hi2
        rw [List.getElem?_append_right (Nat.le_refl _), Nat.sub_self] at hm
        cases hm
        exact ⟨by omega, a⟩
      · rw [List.getElem?_eq_none (by simp; omega)] at hm
        cases hm
  · by_cases hi : i + 1 < l.length
    · rw [List.getElem?_append_left (by omega)] at h1
      rw [List.getElem?_append_left hi] at h2
      exact h.ri i m m' h1 h2
    · by_cases hi2 : i + 1 = l.length
      · rw [List.getElem?_append_left (by omega)] at h1
        rw [List.getElem?_append_right (by omega), show i + 1 - l.length = 0 by omega] at h2
        cases h2
        rw [show l.length - 1 = i by omega, h1] at hl
        cases hl
        exact b
      · rw [List.getElem?_eq_none (by simp; omega)] at h2
        cases h2
theorem playC_ok : ∀ {r : List IncD} {l : List MapD} {k : Nat}, PlOk l k → (∀ x ∈ r, ∀ c ∈ x.changes, c.bucket.items.length ≤ 1048576) → (playC l r).2 = 0 → PlOk (playC l r).1 (k + (r.map fun x => x.changes.length).sum)
  | [], l, k, h, _, _ => h
  | x :: r, l, k, h, hi, h0 => by
    unfold playC at h0 ⊢
    by_cases hm : (applyD (l.getLastD map0) x).2 = 0
    · rw [if_pos hm] at h0 ⊢
      have := playC_ok (h.snoc (hi x (by simp)) hm) (fun x hx => hi x (by simp [hx])) h0
      rw [List.map_cons, List.sum_cons, ← Nat.add_assoc]
      exact this
    · rw [if_neg hm] at h0
      exact absurd h0 hm
theorem playC_len : ∀ {r : List IncD} {l : List MapD}, (playC l r).2 = 0 → (playC l r).1.length = l.length + r.length
  | [], l, _ => rfl
  | x :: r, l, h0 => by
    unfold playC at h0 ⊢
    by_cases hm : (applyD (l.getLastD map0) x).2 = 0
    · rw [if_pos hm] at h0 ⊢
      rw [playC_len h0, List.length_append, List.length_singleton, List.length_cons]
      omega
    · rw [if_neg hm] at h0
      exact absurd h0 hm
/-! Pools put in: the two ways. -/
def pdStep (p : PoolD) (s : List PoolD × Bool) (q : PoolD) : List PoolD × Bool :=
  if s.2 = false ∧ p.id ≤ q.id then (if q.id = p.id then (s.1 ++ [p], true) else (s.1 ++ [p] ++ [q], true)) else (s.1 ++ [q], s.2)
def pdL (l : List PoolD) (p : PoolD) : List PoolD := if (l.foldl (pdStep p) ([], false)).2 then (l.foldl (pdStep p) ([], false)).1 else (l.foldl (pdStep p) ([], false)).1 ++ [p]
theorem pdFold_true (p : PoolD) : ∀ (l a : List PoolD), l.foldl (pdStep p) (a, true) = (a ++ l, true)
  | [], a => by simp
  | q :: r, a => by
    rw [List.foldl_cons, show pdStep p (a, true) q = (a ++ [q], true) by unfold pdStep; simp, pdFold_true p r]
    simp
theorem pdFold_false (p : PoolD) : ∀ (l a : List PoolD), (if (l.foldl (pdStep p) (a, false)).2 then (l.foldl (pdStep p) (a, false)).1 else (l.foldl (pdStep p) (a, false)).1 ++ [p]) = a ++ insP l p
  | [], a => by simp [insP]
  | q :: r, a => by
    rw [List.foldl_cons]
    unfold insP
    by_cases h : q.id < p.id
    · rw [if_pos h, show pdStep p (a, false) q = (a ++ [q], false) by unfold pdStep; rw [if_neg (by simp; omega)], pdFold_false p r]
      simp
    · rw [if_neg h]
      by_cases h2 : q.id = p.id
      · rw [if_pos h2, show pdStep p (a, false) q = (a ++ [p], true) by unfold pdStep; rw [if_pos ⟨rfl, by omega⟩, if_pos h2], pdFold_true]
        simp
      · rw [if_neg h2, show pdStep p (a, false) q = (a ++ [p] ++ [q], true) by unfold pdStep; rw [if_pos ⟨rfl, by omega⟩, if_neg h2], pdFold_true]
        simp
theorem pdL_ins (l : List PoolD) (p : PoolD) : pdL l p = insP l p := by
  have := pdFold_false p l []
  rw [List.nil_append] at this
  exact this
theorem insP_lt {p : PoolD} : ∀ {l : List PoolD} {i : Nat}, i ≤ l.length → (∀ j, j < i → (l.getD j pool0).id < p.id) → insP l p = l.take i ++ insP (l.drop i) p
  | l, 0, _, _ => by simp
  | [], i + 1, h, _ => by simp at h
  | q :: r, i + 1, h, hj => by
    have h0 := hj 0 (by omega)
    rw [List.getD_cons_zero] at h0
    rw [List.take_succ_cons, List.drop_succ_cons]
    conv => lhs; unfold insP
    rw [if_pos h0, insP_lt (i := i) (by simp at h; omega) fun j hj' => by
      have := hj (j + 1) (by omega)
      rw [List.getD_cons_succ] at this
      exact this]
    rfl
theorem insP_end {p : PoolD} {l : List PoolD} (hj : ∀ j, j < l.length → (l.getD j pool0).id < p.id) : insP l p = l ++ [p] := by
  rw [insP_lt (Nat.le_refl _) hj, List.take_length, List.drop_length]
  rfl
theorem insP_eq {p q : PoolD} {l : List PoolD} {i : Nat} (hi : l[i]? = some q) (hj : ∀ j, j < i → (l.getD j pool0).id < p.id) (h : q.id = p.id) : insP l p = l.set i p := by
  have hlt := (List.getElem?_eq_some_iff.1 hi).1
  have he := (List.getElem?_eq_some_iff.1 hi).2
  rw [insP_lt (by omega) hj, List.drop_eq_getElem_cons hlt, he]
  unfold insP
  rw [if_neg (by omega), if_pos h, List.set_eq_take_append_cons_drop, if_pos hlt]
theorem insP_gt {p q : PoolD} {l : List PoolD} {i : Nat} (hi : l[i]? = some q) (hj : ∀ j, j < i → (l.getD j pool0).id < p.id) (h : p.id < q.id) : insP l p = l.take i ++ p :: l.drop i := by
  have hlt := (List.getElem?_eq_some_iff.1 hi).1
  have he := (List.getElem?_eq_some_iff.1 hi).2
  rw [insP_lt (by omega) hj]
  congr 1
  rw [List.drop_eq_getElem_cons hlt, he]
  unfold insP
  rw [if_neg (by omega), if_neg (by omega)]
end Go.Proofs.YtfbpjobjdmmgiaaGreat.Ex
end
