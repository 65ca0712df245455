/- Part 4 of the proof: Ivo, Con, Cd1, Jd0, Jd1, Jd2, Je1, Jd3, RegionS, Codec, Unframe, Frame, Jps, Jw1, Jw2, Jd4, Je2, Jw3, Jw4, Jr1, Jp1, Jp2, Jp3, Jp4, Jp5. -/
import Derived.OrdersHeld
import Derived.Test.YtcnbamdmngaliaaM3
open Nat renaming reduceAdd → zrA, reduceSub → zrS, reduceMul → zrM, reduceLT → zrL, reduceEqDiff → zrE, reduceLeDiff → zrD, reduceShiftRight → zrR, reduceMod → zrO
open Int renaming reduceLE → ziE, reduceLT → ziL, reduceToNat → ziN
section

set_option linter.unusedSimpArgs false
set_option linter.unusedVariables false
namespace Go.Proofs.Ytcnbamdmngaliaa.Ex
open Go Go.RowKit Go.ChangeShapes Go.WideShapes Go.ChangeAt
theorem open_sl {P : Program} {H : Type} {enc : TypeId × Value → H} {W : World} {base : Nat} {t e : TypeId} {v0 : Value} {d0 : DataW H} {p0 : List MemPlace} {α : Type} {R : Rep α} {B : List α → Prop} (hO : OpensA enc P W t (RSl R) B) (hu : P.underlying t = some (.slice e))
    (k0 : Value.okWide P W .any base t v0) (h0 : DataW.Trod enc P W 0 (fun _ => true) true t v0 d0 p0) (hw : ∀ n ∈ d0.weights P t, n ≤ reachBytes) :
    ∃ (v : AV) (ys : List α), rel (fun _ => default) (mu0 W) W v v0 ∧ IsSl R (InH W) (absH W) v ys ∧ B ys := by
  obtain ⟨a, len, cap, rfl⟩ := okWide_slice hu k0
  obtain ⟨fuel, hf⟩ := h0
  obtain ⟨h3, h4, y, h5, h6⟩ := hO.2 fuel [Value.slice a len cap] _ hf (List.all_eq_true.2 fun n hn => (by simpa using hw n hn))
  obtain ⟨v', e', h5⟩ := RSl_is.1 h5
  cases e'
  exact ⟨_, y, absV_rel (h4 _ (by simp)), h5, h6.1⟩
end Go.Proofs.Ytcnbamdmngaliaa.Ex
end

section

set_option linter.unusedSimpArgs false
set_option linter.unusedVariables false
set_option maxRecDepth 10000
namespace Go.Proofs.Ytcnbamdmngaliaa.Ex
open Go
section
variable {P : Program} {T : TT} {t : TM} {h : AH} {d : Option Tmp} {ty : TypeId} {ps : String} {af : Array Edge} {g : Option (Nat × Bool)}
/-- Bytes as a text. -/
def aConQ (P : Program) (T : TT) (o : Oper) (t : TM) (h : AH) (src dst : TypeId) (x : Operand) : AR := aConvert P T o t h src dst x
def conM (h : AH) (r : AR) : AV → AR
  | .sl b off len _ => match bytesAt h b off len with
    | some bs => some (.val (.lit (.string ⟨bs.toArray⟩)), h)
    | none => r
  | _ => r
theorem a_conM {i : Nat} : aConR Try.prog (tabOf Try.prog NT0) ⟨d, .convert 22 9 (.tmp i), ty, ps, af, g⟩ t h 22 9 (.tmp i) = conM h (aConQ Try.prog (tabOf Try.prog NT0) ⟨d, .convert 22 9 (.tmp i), ty, ps, af, g⟩ t h 22 9 (.tmp i)) (t.get i) := by
  unfold conM
  split
  · rename_i b off len cap hv
    split
    · rename_i bs hbs
      have hu1 : und (tabOf Try.prog NT0) 22 = some (.slice 5) := by kernel_rfl
      have hu2 : und (tabOf Try.prog NT0) 9 = some .string := by kernel_rfl
      have hu3 : und (tabOf Try.prog NT0) 5 = some (.int .u8) := by kernel_rfl
      have hl : litOp Try.prog ⟨d, .convert 22 9 (.tmp i), ty, ps, af, g⟩ t = none := by
        unfold litOp
        rw [if_neg]
        simp [Op.operands, litAll, ev_tmp, hv, toVal]
      unfold aConR aConvert
      rw [ev_tmp, hv]
      unfold orLit
      rw [hl]
      simp only [aConv1, hu1, hu2, hu3, hbs, Option.map_some, val]
    · rfl
  · rfl
end
def bL (xs : List UInt8) : List AV := xs.map fun n => .lit (.int .u8 n.toNat)
theorem bytesA_bL : ∀ xs : List UInt8, bytesA (bL xs) = some xs
  | [] => rfl
  | x :: xs => by
    have hlt : Nat.blt x.toNat 256 = true := by rw [Nat.blt_eq]; exact UInt8.toNat_lt x
    show (bif Nat.blt x.toNat 256 then (bytesA (bL xs)).map (UInt8.ofNat x.toNat :: ·) else none) = _
    rw [hlt, bytesA_bL xs]
    simp
theorem OwnL.bytes {G : Nat → Prop} {n0 : Nat} {h : AH} {v : AV} {e : TypeId} {xs : List UInt8} (ho : OwnL RByte G n0 h v e xs) (hne : xs ≠ []) :
    ∃ p, v = .sl p 0 xs.length (.un 1) ∧ n0 ≤ p ∧ h.at p = some (.cells (bL xs) e) ∧ bytesAt h p 0 xs.length = some xs := by
  obtain ⟨L, h1, h2⟩ := ho
  have hL : L.flatten = bL xs := by
    obtain ⟨e1, e2⟩ := h2
    have key : ∀ (L : List (List AV)) (xs : List UInt8), L.length = xs.length → (∀ (i : Nat) c x, L[i]? = some c → xs[i]? = some x → RByte.is (fun b => G b ∧ Apart v b) h c x) → L.flatten = bL xs := by
      intro L
      induction L with
      | nil => intro xs hl _; cases xs with | nil => rfl | cons => cases hl
      | cons a r ih =>
        intro xs hl hh
        cases xs with
        | nil => cases hl
        | cons x xs =>
          have i1 := ih xs (by simpa using hl) (fun i c y a b => hh (i + 1) c y (by simpa using a) (by simpa using b))
          obtain rfl := hh 0 a x rfl rfl
          rw [List.flatten_cons, i1]
          rfl
    exact key L xs e1 e2
  have e0 := h2.1
  rcases h1.2 with ⟨rfl, rfl⟩ | ⟨p, rfl, hp, hat⟩
  · exact absurd (List.eq_nil_of_length_eq_zero (by rw [← e0]; rfl)) hne
  · refine ⟨p, by rw [e0]; rfl, hp, by rw [hat, hL], ?_⟩
    unfold bytesAt getR
    rw [hat, hL]
    show (match cut (bL xs) 0 xs.length with | some cs => bytesA cs | none => none) = _
    unfold cut
    rw [if_pos (by unfold bL; simp)]
    show bytesA (((bL xs).drop 0).take xs.length) = _
    rw [List.drop_zero, List.take_of_length_le (by unfold bL; simp), bytesA_bL]
end Go.Proofs.Ytcnbamdmngaliaa.Ex
end

section

set_option linter.unusedSimpArgs false
set_option linter.unusedVariables false
set_option maxRecDepth 10000
set_option maxHeartbeats 4000000
namespace Go.Proofs.Ytcnbamdmngaliaa.Ex
open Go
def byteN (q : IntKind) (n : Int) (i : Nat) : UInt8 := UInt8.ofNat (IntKind.u8.wrap (shrI q n ((8 * i : Nat) : Int))).toNat
def encN (q : IntKind) (n : Int) (k : Nat) : List UInt8 := (List.range k).map (byteN q n)
theorem encN_succ (q : IntKind) (n : Int) (k : Nat) : encN q n (k + 1) = encN q n k ++ [byteN q n k] := by unfold encN; rw [List.range_succ, List.map_append]; rfl
theorem encN_len (q : IntKind) (n : Int) (k : Nat) : (encN q n k).length = k := by unfold encN; simp
/-- Bytes that grow. -/
abbrev OwnB (n0 : Nat) (h : AH) (v : AV) (xs : List UInt8) : Prop := OwnL RByte (fun _ => False) n0 h v 5 xs
theorem wrap_u8b (n : Int) : ((UInt8.ofNat (IntKind.u8.wrap n).toNat).toNat : Int) = IntKind.u8.wrap n := by
  rw [IntKind.wrap_u8]
  have h : 0 ≤ n % 256 ∧ n % 256 < 256 := by omega
  rw [UInt8.toNat_ofNat']
  omega
/-- What stands beside a row that grows is as it was. -/
def Fr (h : AH) (v : AV) (h' : AH) (v' : AV) : Prop := h.n ≤ h'.n ∧ ∀ b, b < h.n → Apart v b → h'.at b = h.at b ∧ Apart v' b
theorem Fr.refl {h : AH} {v : AV} : Fr h v h v := ⟨Nat.le_refl _, fun b _ ha => ⟨rfl, ha⟩⟩
theorem Fr.trans {h h1 h2 : AH} {v v1 v2 : AV} (a : Fr h v h1 v1) (b : Fr h1 v1 h2 v2) : Fr h v h2 v2 :=
  ⟨Nat.le_trans a.1 b.1, fun k hk ha => let ⟨x, y⟩ := a.2 k hk ha; let ⟨z, u⟩ := b.2 k (Nat.lt_of_lt_of_le hk a.1) y; ⟨z.trans x, u⟩⟩
theorem Fr.ext {h h1 : AH} {v : AV} (e : Ext h.n h h1) : Fr h v h1 v := ⟨e.1, fun b hb ha => ⟨e.2 b hb, ha⟩⟩
theorem Fr.box {h h1 : AH} {v v1 : AV} {b : Nat} {x : AB} (f : Fr h v h1 v1) (hx : h.at b = some x) (ha : Apart v b) : h1.at b = some x ∧ Apart v1 b :=
  let ⟨p, q⟩ := f.2 b (at_lt hx) ha; ⟨p.trans hx, q⟩
theorem OwnB.apart {n0 : Nat} {h : AH} {v : AV} {xs : List UInt8} (ho : OwnB n0 h v xs) {b : Nat} (hb : b < n0 ∨ h.n ≤ b) : Apart v b := by
  intro off len cap hv
  obtain ⟨L, h2, -⟩ := ho
  rcases h2.2 with ⟨rfl, -⟩ | ⟨p, rfl, hp, hat⟩
  · cases hv
  · cases hv
    have := at_lt hat
    omega
theorem Fr.toExt {n0 : Nat} {h h1 : AH} {v v1 : AV} {xs : List UInt8} (f : Fr h v h1 v1) (ho : OwnB n0 h v xs) (hn0 : n0 ≤ h.n) : Ext n0 h h1 := ⟨f.1, fun b hb => (f.2 b (by omega) (ho.apart (.inl hb))).1⟩
theorem word2_x {H : AH} {v : AV} {xs : List UInt8} {n0 : Nat} (n : Int) (ho : OwnB n0 H v xs) (hn0 : n0 ≤ H.n) (hl : xs.length + 4 ≤ 140737488355328) :
    WC Try.prog (tabOf Try.prog NT0) S0 64 [v, .lit (.int .u32 n)] H fun r h' => Fr H v h' r ∧ OwnB n0 h' r (xs ++ encN .u32 n 4) := by
  refine WC_fn Try.func64 rfl rfl ?_
  simp only [core, zrA, zrS, zrM, zrL, zrE, reduceCtorEq, zrD, ziE, ziL, ziN, Try.ntmps64]
  refine WB_for 4 (fun i t h => (∃ s, OwnB n0 h s (xs ++ encN .u32 n i) ∧ Fr H v h s ∧ t.get 0 = s) ∧ t.n = 19 ∧ t.get 1 = .lit (.int .u32 n) ∧ t.get 6 = .lit (.int .i64 i)) ?_ ?_ _ _ ?_
  · rintro i t h hlt hc ⟨⟨s, ho, fr, g0⟩, hn, g1, g6⟩ ih
    have hc : ((i : Int) < 4) = True := by simp only [eq_iff_iff, iff_true]; omega
    have hws := wrap_succ hlt (by omega)
    have hw8 : IntKind.i64.wrap (8 * (i : Int)) = ((8 * i : Nat) : Int) := (wrap_in (by omega) (by omega)).trans (by omega)
    have s1 := (ho.toSl (F := fun _ => True) (fun _ h => h.elim) (fun _ _ => trivial)).isSl
    have h8 : ((8 * i : Nat) : Int) < 0 ∨ (0 : Int) ≤ ((8 * i : Nat) : Int) := .inr (by omega)
    have h80 : ((0 : Int) ≤ ((8 * i : Nat) : Int)) = True := by simp only [eq_iff_iff, iff_true]; omega
    simp only [core, zrA, zrS, zrM, zrL, zrE, reduceCtorEq, zrD, ziE, ziL, ziN, hn, g1, g6, g0, hc, hw8, h80, s1]
    obtain ⟨h2, hh2⟩ : ∃ h2, h2 = h.push (.cells [.lit (.int .u8 (IntKind.u8.wrap (shrI .u32 n ((8 * i : Nat) : Int))))] 5) := ⟨_, rfl⟩
    have e2 : Ext h.n h h2 := hh2 ▸ (Ext.refl _ _).push _ (Nat.le_refl _)
    have A2 : h2.at h.n = some (.cells [.lit (.int .u8 (IntKind.u8.wrap (shrI .u32 n ((8 * i : Nat) : Int))))] 5) := hh2 ▸ at_push_n _ _
    rw [← hh2]
    clear hh2
    have hn2 := e2.1
    have hnh := fr.1
    have hlen : (xs ++ encN .u32 n i).length = xs.length + i := by rw [List.length_append, encN_len]
    refine WOp_app ((ho.ext e2 (Nat.le_refl _)).snoc (by kernel_rfl) (by kernel_rfl) (by kernel_rfl) (zv := .lit (.int .u8 0)) (by kernel_rfl) (by' := 1) (by kernel_rfl) rfl (by decide) (by decide) A2 (y := byteN .u32 n i) (by show [AV.lit (Value.int .u8 _)] = [AV.lit (Value.int .u8 ((byteN .u32 n i).toNat : Int))]; unfold byteN; rw [wrap_u8b]) (by omega) (by omega) (by omega)) ?_
    rintro s4 h4 ⟨ho4, e4, f4⟩
    have v4 := (ho4.toSl (F := fun _ => True) (fun _ h => h.elim) (fun _ _ => trivial)).isSl
    simp only [core, zrA, zrS, zrM, zrL, zrE, reduceCtorEq, zrD, ziE, ziL, ziN, hn, g1, g6, g0, hws, v4]
    refine ih _ _ ⟨⟨s4, by rw [encN_succ, ← List.append_assoc]; exact ho4, fr.trans ((Fr.ext e2).trans ⟨e4.1, f4⟩), by simp only [core, zrA, zrS, zrM, zrL, zrE, reduceCtorEq, zrD, ziE, ziL, ziN, hn, g1, g6]⟩, ?_⟩
    simp only [core, zrA, zrS, zrM, zrL, zrE, reduceCtorEq, zrD, ziE, ziL, ziN, hn, g1, g6]
  · rintro t h hc ⟨⟨s, ho, fr, g0⟩, hn, g1, g6⟩
    have hc : ((4 : Int) < 4) = False := by decide
    have hc' : (((4 : Nat) : Int) < 4) = False := by decide
    simp only [core, zrA, zrS, zrM, zrL, zrE, reduceCtorEq, zrD, ziE, ziL, ziN, hn, g1, g6, g0, hc, hc']
    exact ⟨fr, ho⟩
  · refine ⟨⟨v, by rw [show encN .u32 n 0 = [] from rfl, List.append_nil]; exact ho, Fr.refl, by simp only [core, zrA, zrS, zrM, zrL, zrE, reduceCtorEq, zrD, ziE, ziL, ziN]⟩, ?_⟩
    simp only [core, zrA, zrS, zrM, zrL, zrE, reduceCtorEq, zrD, ziE, ziL, ziN]
    rfl
theorem count2_x {H : AH} {v : AV} {xs : List UInt8} {n0 : Nat} (n : Int) (ho : OwnB n0 H v xs) (hn0 : n0 ≤ H.n) (hl : xs.length + 4 ≤ 140737488355328) :
    WC Try.prog (tabOf Try.prog NT0) S0 65 [v, .lit (.int .i64 n)] H fun r h' => Fr H v h' r ∧ OwnB n0 h' r (xs ++ encN .u32 (IntKind.u32.wrap n) 4) := by
  refine WC_fn Try.func65 rfl rfl ?_
  simp only [core, zrA, zrS, zrM, zrL, zrE, reduceCtorEq, zrD, ziE, ziL, ziN, Try.ntmps65]
  refine (word2_x (IntKind.u32.wrap n) ho hn0 hl).mono ?_
  rintro r h ⟨e, hr⟩
  simp only [core, zrA, zrS, zrM, zrL, zrE, reduceCtorEq, zrD, ziE, ziL, ziN]
  exact ⟨e, hr⟩
end Go.Proofs.Ytcnbamdmngaliaa.Ex
end

section

set_option linter.unusedSimpArgs false
set_option linter.unusedVariables false
set_option maxRecDepth 10000
set_option maxHeartbeats 4000000
namespace Go.Proofs.Ytcnbamdmngaliaa.Ex
open Go
/-- What changes: the blocks of l, and v's. -/
structure Chg (l : List Nat) (v v' : AV) (H h' : AH) : Prop where
  n : H.n ≤ h'.n
  k : ∀ b, b < H.n → b ∉ l → Apart v b → h'.at b = H.at b ∧ Apart v' b
theorem Chg.refl {l : List Nat} {v : AV} {H : AH} : Chg l v v H H := ⟨Nat.le_refl _, fun b _ _ ha => ⟨rfl, ha⟩⟩
theorem Chg.ext {l : List Nat} {v : AV} {H h : AH} (e : Ext H.n H h) : Chg l v v H h := ⟨e.1, fun b hb _ ha => ⟨e.2 b hb, ha⟩⟩
theorem Chg.trans {l : List Nat} {v v1 v2 : AV} {H h h2 : AH} (a : Chg l v v1 H h) (b : Chg l v1 v2 h h2) : Chg l v v2 H h2 :=
  ⟨Nat.le_trans a.n b.n, fun k hk hl ha => let ⟨x, y⟩ := a.k k hk hl ha; let ⟨z, u⟩ := b.k k (Nat.lt_of_lt_of_le hk a.n) hl y; ⟨z.trans x, u⟩⟩
theorem Chg.put {l : List Nat} {v : AV} {H : AH} {d : Nat} (x : AB) (hd : d ∈ l) : Chg l v v H (H.put d x) :=
  ⟨by rw [n_put]; exact Nat.le_refl _, fun b _ hl ha => ⟨at_put_ne _ (fun e => hl (e ▸ hd)), ha⟩⟩
theorem Chg.mono {l m : List Nat} {v v' : AV} {H h' : AH} (c : Chg l v v' H h') (hm : ∀ b ∈ l, b ∈ m) : Chg m v v' H h' := ⟨c.n, fun b hb hl ha => c.k b hb (fun h => hl (hm b h)) ha⟩
theorem take_bL (xs : List UInt8) (k : Nat) : (bL xs).take k = bL (xs.take k) := by unfold bL; rw [List.map_take]
theorem drop_bL (xs : List UInt8) (k : Nat) : (bL xs).drop k = bL (xs.drop k) := by unfold bL; rw [List.map_drop]
theorem len_bL (xs : List UInt8) : (bL xs).length = xs.length := by unfold bL; simp
theorem bL_append (xs ys : List UInt8) : bL (xs ++ ys) = bL xs ++ bL ys := by unfold bL; simp
theorem Els.bL {F : Nat → Prop} {h : AH} : ∀ {L : List (List AV)} {xs : List UInt8}, Els RByte F h L xs → L.flatten = bL xs
  | [], xs, h1 => by
    obtain rfl : xs = [] := List.eq_nil_of_length_eq_zero h1.1.symm
    rfl
  | a :: r, [], h1 => by have := h1.1; simp at this
  | a :: r, x :: xs, h1 => by
    have i1 := Els.bL (F := F) (h := h) (L := r) (xs := xs) ⟨by have := h1.1; simpa using this, fun i c y a b => h1.2 (i + 1) c y (by simpa using a) (by simpa using b)⟩
    obtain rfl := h1.2 0 a x rfl rfl
    rw [List.flatten_cons, i1]
    rfl
theorem els_bL {F : Nat → Prop} {h : AH} (xs : List UInt8) : Els RByte F h (xs.map fun x => [AV.lit (.int .u8 x.toNat)]) xs := by
  refine ⟨by simp, fun i c x h1 h2 => ?_⟩
  rw [List.getElem?_map, h2] at h1
  cases h1
  rfl
theorem bL_flat (xs : List UInt8) : (xs.map fun x => [AV.lit (.int .u8 x.toNat)]).flatten = bL xs := by
  induction xs with
  | nil => rfl
  | cons a r ih => rw [List.map_cons, List.flatten_cons, ih]; rfl
/-- Bytes read through a slice: where they stand. -/
theorem IsSl.bytesRow {F : Nat → Prop} {h : AH} {v : AV} {xs : List UInt8} (hs : IsSl RByte F h v xs) : (v = .lit (.slice none 0 0) ∧ xs = []) ∨ ∃ b off cap row, v = .sl b off xs.length cap ∧ F b ∧ getR h b = some row ∧ cut row off xs.length = some (bL xs) ∧ CapOk 1 v := by
  obtain ⟨L, h1, h2, hc, h3⟩ := hs.out
  have e0 : L.length = xs.length := h3.1
  rcases h1.2 with ⟨rfl, rfl⟩ | ⟨b, off, cap, row, rfl, h4, h5⟩
  · exact .inl ⟨rfl, List.eq_nil_of_length_eq_zero e0.symm⟩
  · refine .inr ⟨b, off, cap, row, by rw [e0], h2 _ _ _ _ rfl, h4, ?_, hc⟩
    rw [show L.length * RByte.z = xs.length from by show L.length * 1 = _; omega] at h5
    rw [h5, h3.bL]
theorem IsSl.mkBytes {F : Nat → Prop} {h : AH} {xs : List UInt8} {b off : Nat} {cap : Cap} {row : List AV} (hF : F b) (hr : getR h b = some row) (hc : cut row off xs.length = some (bL xs)) (hk : CapOk 1 (.sl b off xs.length cap)) : IsSl RByte F h (.sl b off xs.length cap) xs := by
  have hE := els_bL (F := F) (h := h) xs
  refine .mk (L := xs.map fun x => [AV.lit (.int .u8 x.toNat)]) ⟨by intro c hc; rw [List.mem_map] at hc; obtain ⟨x, _, rfl⟩ := hc; rfl, .inr ⟨b, off, cap, row, by simp, hr, ?_⟩⟩ (fun b' off' n' cap' e => by cases e; exact hF) hk hE
  rw [bL_flat]
  rw [show (xs.map fun x => [AV.lit (.int .u8 x.toNat)]).length * RByte.z = xs.length from by rw [List.length_map]; show xs.length * 1 = _; omega]
  exact hc
theorem IsSl.bytesOf {F : Nat → Prop} {h : AH} {v : AV} {xs : List UInt8} (hs : IsSl RByte F h v xs) : bytesOf h v = some xs := by
  rcases hs.bytesRow with ⟨rfl, rfl⟩ | ⟨b, off, cap, row, rfl, -, h4, h5, -⟩
  · rfl
  · show bytesAt h b off xs.length = _
    unfold bytesAt
    rw [h4]
    show (match cut row off xs.length with | some cs => bytesA cs | none => none) = _
    rw [h5]
    exact bytesA_bL xs
theorem IsSl.bytesF {F G : Nat → Prop} {h : AH} {v : AV} {xs : List UInt8} (hs : IsSl RByte F h v xs) (hv : SlF G v) : IsSl RByte G h v xs := by
  obtain ⟨L, f1, f2, f3, f4⟩ := hs.out
  exact .mk f1 hv f3 ⟨f4.1, fun i c x h1 h2 => f4.2 i c x h1 h2⟩
theorem IsSl.bytesNil {F : Nat → Prop} {h : AH} : IsSl RByte F h (.lit (.slice none 0 0)) [] := .mk (L := []) ⟨by simp, .inl ⟨rfl, rfl⟩⟩ (fun b off n cap e => by cases e) (fun b off n cap e => by cases e) .nil
/-- Bytes of a row of the run's own: it grows, or its end was cut off. -/
def VwB (n0 : Nat) (h : AH) (v : AV) (xs : List UInt8) : Prop :=
  (v = .lit (.slice none 0 0) ∧ xs = []) ∨ ∃ p ys cap, v = .sl p 0 xs.length cap ∧ n0 ≤ p ∧ h.at p = some (.cells (bL ys) 5) ∧ ys.take xs.length = xs ∧ (cap = .un 1 ∧ ys = xs ∨ cap = .kn xs.length)
theorem VwB.slN {n0 : Nat} {h : AH} {v : AV} {xs : List UInt8} (ho : VwB n0 h v xs) : SlN v xs.length := by
  rcases ho with ⟨rfl, rfl⟩ | ⟨p, ys, cap, rfl, -⟩
  · exact .inl ⟨rfl, rfl⟩
  · exact .inr ⟨_, _, _, rfl⟩
theorem VwB.isSl {n0 : Nat} {h : AH} {v : AV} {xs : List UInt8} (ho : VwB n0 h v xs) : Ex.isSl v = true := ho.slN.isSl
theorem VwB.lenD {n0 : Nat} {h : AH} {v : AV} {xs : List UInt8} (ho : VwB n0 h v xs) : Ex.lenD v = xs.length := ho.slN.lenD
theorem VwB.one {n0 : Nat} {h : AH} {v : AV} {xs : List UInt8} (ho : VwB n0 h v xs) : v.one = true := ho.slN.one
theorem VwB.nil {n0 : Nat} {h : AH} : VwB n0 h (.lit (.slice none 0 0)) [] := .inl ⟨rfl, rfl⟩
theorem VwB.toSl {n0 : Nat} {h : AH} {v : AV} {xs : List UInt8} {F : Nat → Prop} (ho : VwB n0 h v xs) (hF : SlF F v) : IsSl RByte F h v xs := by
  rcases ho with ⟨rfl, rfl⟩ | ⟨p, ys, cap, rfl, hp, hat, ht, hc⟩
  · exact .bytesNil
  · have hl : xs.length ≤ ys.length := by have := congrArg List.length ht; rw [List.length_take] at this; omega
    refine .mkBytes (hF _ _ _ _ rfl) (row := bL ys) (by unfold getR; rw [hat]) ?_ fun b off n cap' e => ?_
    · unfold cut
      rw [if_pos (by rw [len_bL]; omega), List.drop_zero, take_bL, ht]
    · cases e
      rcases hc with ⟨rfl, -⟩ | rfl
      · rfl
      · exact Nat.le_refl _
theorem VwB.ofOwn {n0 : Nat} {h : AH} {v : AV} {xs : List UInt8} (ho : OwnB n0 h v xs) : VwB n0 h v xs := by
  obtain ⟨L, h1, h2⟩ := ho
  have e0 := h2.1
  rcases h1.2 with ⟨rfl, rfl⟩ | ⟨p, rfl, hp, hat⟩
  · exact .inl ⟨rfl, List.eq_nil_of_length_eq_zero e0.symm⟩
  · exact .inr ⟨p, xs, .un 1, by rw [e0]; rfl, hp, by rw [hat, h2.bL], List.take_length, .inl ⟨rfl, rfl⟩⟩
theorem OwnB.mk {n0 p : Nat} {h : AH} {xs : List UInt8} (hp : n0 ≤ p) (hat : h.at p = some (.cells (bL xs) 5)) : OwnB n0 h (.sl p 0 xs.length (.un 1)) xs := by
  refine ⟨xs.map fun x => [AV.lit (.int .u8 x.toNat)], ⟨by intro c hc; rw [List.mem_map] at hc; obtain ⟨x, _, rfl⟩ := hc; rfl, .inr ⟨p, by rw [List.length_map]; rfl, hp, by rw [bL_flat]; exact hat⟩⟩, els_bL xs⟩
theorem VwB.lift {n0 : Nat} {h h' : AH} {v : AV} {xs : List UInt8} (ho : VwB n0 h v xs) (hk : ∀ b off n cap, v = .sl b off n cap → h'.at b = h.at b) : VwB n0 h' v xs := by
  rcases ho with ho | ⟨p, ys, cap, rfl, hp, hat, ht⟩
  · exact .inl ho
  · exact .inr ⟨p, ys, cap, rfl, hp, by rw [hk _ _ _ _ rfl, hat], ht⟩
theorem VwB.lt {n0 : Nat} {h : AH} {v : AV} {xs : List UInt8} (ho : VwB n0 h v xs) : ∀ b off n cap, v = .sl b off n cap → n0 ≤ b ∧ b < h.n := fun b off n cap e => by
  rcases ho with ⟨rfl, -⟩ | ⟨p, ys, cap, rfl, hp, hat, ht⟩
  · cases e
  · cases e
    exact ⟨hp, at_lt hat⟩
theorem VwB.ext {n0 : Nat} {h h' : AH} {v : AV} {xs : List UInt8} (ho : VwB n0 h v xs) (he : Ext h.n h h') : VwB n0 h' v xs := ho.lift fun b off n cap e => he.2 b (ho.lt b off n cap e).2
theorem VwB.apartLt {n0 b : Nat} {h : AH} {v : AV} {xs : List UInt8} (ho : VwB n0 h v xs) (hb : b < n0 ∨ h.n ≤ b) : Apart v b := fun off n cap e => by have := ho.lt _ _ _ _ e; omega
theorem VwB.mono {n0 n1 : Nat} {h : AH} {v : AV} {xs : List UInt8} (ho : VwB n0 h v xs) (hn : n1 ≤ n0) : VwB n1 h v xs := by
  rcases ho with ho | ⟨p, ys, cap, e, hp, r⟩
  · exact .inl ho
  · exact .inr ⟨p, ys, cap, e, Nat.le_trans hn hp, r⟩
/-- A block of another type is another one. -/
theorem VwB.sep {n0 b e : Nat} {h : AH} {v : AV} {xs : List UInt8} {l : List AV} (ho : VwB n0 h v xs) (hb : h.at b = some (.cells l e)) (hne : e ≠ 5) : Apart v b := fun off n cap ev => by
  rcases ho with ⟨rfl, -⟩ | ⟨p, ys, cap, rfl, hp, hat, ht⟩
  · cases ev
  · cases ev
    rw [hat] at hb
    cases hb
    exact hne rfl
theorem VwB.app {n0 : Nat} {H : AH} {v x : AV} {xs ys : List UInt8} {F : Nat → Prop} (ho : VwB n0 H v xs) (hx : IsSl RByte F H x ys) (hl : xs.length + ys.length ≤ 140737488355328) (hn0 : n0 ≤ H.n) :
    ∃ s' h', appendA (tabOf Try.prog NT0) H 22 22 v x = some (s', h') ∧ VwB n0 h' s' (xs ++ ys) ∧ Chg [] v s' H h' ∧ Ext n0 H h' := by
  obtain ⟨L, h1, h2, hc, h3⟩ := hx.out
  have hM : Els RByte (fun b => False ∧ Apart v b) H L ys := ⟨h3.1, fun i c x h1 h2 => h3.2 i c x h1 h2⟩
  have viaOwn : OwnB n0 H v xs → ∃ s' h', appendA (tabOf Try.prog NT0) H 22 22 v x = some (s', h') ∧ VwB n0 h' s' (xs ++ ys) ∧ Chg [] v s' H h' ∧ Ext n0 H h' := fun ho => by
    obtain ⟨s', h', a1, a2, a3, a4⟩ := ho.append (T := tabOf Try.prog NT0) (t := 22) (tx := 22) (by kernel_rfl) (by kernel_rfl) (by kernel_rfl) (zv := .lit (.int .u8 0)) (by kernel_rfl) (by' := 1) (by kernel_rfl) rfl (by decide) (by decide) h1.src h1.len hM (by omega) (by omega) hn0
    exact ⟨s', h', a1, .ofOwn a2, ⟨a3.1, fun b hb _ ha => a4 b hb ha⟩, a3⟩
  rcases ho with ⟨rfl, rfl⟩ | ⟨p, zs, cap, rfl, hp, hat, ht, ⟨rfl, rfl⟩ | rfl⟩
  · exact viaOwn .nil
  · exact viaOwn (.mk hp hat)
  · have e0 : L.length = ys.length := h3.1
    have hlz : xs.length ≤ zs.length := by have := congrArg List.length ht; rw [List.length_take] at this; omega
    have hml := flat_len h1.1
    have hz1 : RByte.z = 1 := rfl
    have hA : appendA (tabOf Try.prog NT0) H 22 22 (.sl p 0 xs.length (.kn xs.length)) x = appendB H 5 1 ys.length (bL ys) (.sl p 0 xs.length (.kn xs.length)) := by
      have k1 : und (tabOf Try.prog NT0) 22 = some (.slice 5) := by kernel_rfl
      have hz : sizeT (tabOf Try.prog NT0) 5 = some 1 := by kernel_rfl
      have hzv : zeroT (tabOf Try.prog NT0) 5 = some (.lit (.int .u8 0)) := by kernel_rfl
      have hb : bytesT (tabOf Try.prog NT0) 5 = some 1 := by kernel_rfl
      simp only [sizeT, zeroT, bytesT, Option.map_eq_some_iff] at hz hzv hb
      obtain ⟨i, hi, e1⟩ := hz
      obtain ⟨i2, hi2, e2⟩ := hzv
      obtain ⟨i3, hi3, e3⟩ := hb
      rw [hi] at hi2 hi3
      obtain rfl := Option.some.inj hi2
      obtain rfl := Option.some.inj hi3
      unfold appendA
      rw [k1]
      have hl0 : lenA (.sl p 0 xs.length (.kn xs.length)) = some xs.length := rfl
      simp only [hi, h1.len, hl0, e0, e1, e3, e2]
      rw [show (isSrcD 1 (.slice 5) && Nat.blt 0 1 && Nat.ble 1 200 && Nat.beq (AV.lit (.int .u8 0)).cells.length 1 && Nat.ble (xs.length + ys.length) 4611686018427387904 && Nat.ble ((xs.length + ys.length) * 1) 140737488355328) = true by
        simp only [Bool.and_eq_true, Nat.ble_eq, Nat.blt_eq]
        exact ⟨⟨⟨⟨⟨rfl, by decide⟩, by decide⟩, rfl⟩, by omega⟩, by omega⟩]
      have hsrc := h1.src
      rw [hz1] at hsrc
      simp only [cond_true, hsrc]
      rw [h3.bL, show (Nat.beq (bL ys).length (ys.length * 1) && (bL ys).all AV.one) = true by
        rw [len_bL, Nat.mul_one, Nat.beq_refl]
        simp [bL, AV.one]]
      rfl
    rw [hA]
    unfold appendB
    cases hm : Nat.beq ys.length 0 with
    | true =>
      obtain rfl : ys = [] := List.eq_nil_of_length_eq_zero (Nat.eq_of_beq_eq_true hm)
      exact ⟨_, _, rfl, .inr ⟨p, zs, .kn xs.length, by rw [List.append_nil], hp, hat, by rw [List.append_nil]; exact ht, .inr (by rw [List.append_nil])⟩, .refl, Ext.refl _ _⟩
    | false =>
      have hne : ys.length ≠ 0 := fun h => by rw [h] at hm; cases hm
      have hb : Nat.ble (xs.length + ys.length) xs.length = false := by
        rw [Bool.eq_false_iff]
        intro hh
        have := Nat.ble_eq.mp hh
        omega
      have hg : getR H p = some (bL zs) := by unfold getR; rw [hat]
      have hc : cut (bL zs) 0 (xs.length * 1) = some (bL xs) := by
        unfold cut
        rw [if_pos (by rw [len_bL]; omega), List.drop_zero, Nat.mul_one, take_bL, ht]
      simp only [cond_false, hb, hg, hc]
      refine ⟨_, _, rfl, .inr ⟨H.n, xs ++ ys, .un 1, by rw [List.length_append], hn0, by rw [at_push_n, bL_append], List.take_length, .inl ⟨rfl, rfl⟩⟩, ⟨by rw [n_push]; omega, fun b hb _ ha => ⟨at_push_lt _ hb, fun off n cap e => by cases e; omega⟩⟩, (Ext.refl _ _).push _ hn0⟩
/-! Slices of three indexes, of which two are the same. -/
def sl3 (k : Nat) : AV → AV
  | .sl b off _ _ => .sl b off k (.kn k)
  | v => v
def slM3 (h : AH) (v : AV) (hi mx : Int) (r : AR) : AR := if 0 ≤ hi ∧ hi = mx ∧ hi ≤ (lenD v : Int) then some (.val (sl3 hi.toNat v), h) else r
theorem VwB.sl3 {n0 k : Nat} {h : AH} {v : AV} {xs : List UInt8} (ho : VwB n0 h v xs) (hk : k ≤ xs.length) : VwB n0 h (sl3 k v) (xs.take k) ∧ ∀ b, Apart v b → Apart (Ex.sl3 k v) b := by
  have hl : (xs.take k).length = k := by rw [List.length_take]; omega
  rcases ho with ⟨rfl, rfl⟩ | ⟨p, ys, cap, rfl, hp, hat, ht, hc⟩
  · exact ⟨.inl ⟨rfl, by simp⟩, fun b ha => ha⟩
  · refine ⟨.inr ⟨p, ys, .kn k, by rw [hl]; rfl, hp, hat, ?_, .inr (by rw [hl])⟩, fun b ha off n cap' e => ?_⟩
    · rw [hl]
      conv => rhs; rw [← ht, List.take_take, Nat.min_eq_left hk]
    · have e' : AV.sl p 0 k (.kn k) = .sl b off n cap' := e
      cases e'
      exact ha _ _ _ rfl
section
variable {P : Program} {T : TT} {t : TM} {h : AH} {d : Option Tmp} {ty : TypeId} {ps : String} {af : Array Edge} {g : Option (Nat × Bool)} {N : NT}
theorem nil_slice3 {e : TypeId} (hP : P.underlying e = some (.slice ty)) (hi' : (P.info? ty).isSome = true) :
    pur P (do let x ← Instr.sliceAt e (.slice none 0 0) none (some (.int .i64 0)) (some (.int .i64 0)); pure (Next.value x)) = some (.ok (.value (.slice none 0 0))) := by
  obtain ⟨ii, hii⟩ := Option.isSome_iff_exists.1 hi'
  have u1 : ∀ {α β : Type} (f : TypeDesc → Sem α) (g : α → Sem β), pur P ((underlying e >>= f) >>= g) = pur P (f (.slice ty) >>= g) := fun f g => by
    show pur P (((match P.underlying e with | some d => pure d | none => stuck "no such type") >>= f) >>= g) = _
    rw [hP]
    rfl
  have u2 : ∀ {α β : Type} (f : Nat → Sem α) (g : α → Sem β), pur P ((sizeOf ty >>= f) >>= g) = pur P (f ii.size >>= g) := fun f g => by
    show pur P (((((match P.info? ty with | some i => pure i | none => stuck "no such type") >>= fun i => pure i.size)) >>= f) >>= g) = _
    rw [hii]
    rfl
  unfold Instr.sliceAt
  rw [u1]
  show pur P (Instr.slice e (.slice none 0 0) none (some (.int .i64 0)) (some (.int .i64 0)) >>= _) = _
  unfold Instr.slice
  rw [u1]
  exact u2 _ _
theorem nilSl3_lit {o : Oper} {e el i : Nat} {hi mx : Operand} (hu : und (tabOf P N) e = some (.slice el)) {z : Nat} (hel : sizeT (tabOf P N) el = some z) (h0 : 0 < z) (hv : t.get i = .lit (.slice none 0 0))
    (hh : evalA t hi = some (.lit (.int .i64 0))) (hm : evalA t mx = some (.lit (.int .i64 0))) (ho : o.op = .slice e (.tmp i) none (some hi) (some mx)) :
    litOp P o t = some (.val (.lit (.slice none 0 0))) := by
  obtain ⟨d, op, ty, ps, af, g⟩ := o
  simp only at ho
  subst ho
  have hinfo : (P.info? el).isSome = true := by
    cases hq : P.info? el with
    | some ii => rfl
    | none =>
      simp only [sizeT, Option.map_eq_some_iff, tabOf] at hel
      obtain ⟨ti, h1, h2⟩ := hel
      cases hN : N.has el with
      | false => rw [hN] at h1; cases h1
      | true =>
        rw [hN] at h1
        simp only [cond_true, Option.some.injEq] at h1
        rw [← h1] at h2
        simp only [tiOf, hq] at h2
        simp at h2
        omega
  have e0 : litEnv t (.tmp i) = .slice none 0 0 := by simp [litEnv, ev_tmp, hv, toVal]
  have e1 : litEnv t hi = .int .i64 0 := by simp [litEnv, hh, toVal]
  have e2 : litEnv t mx = .int .i64 0 := by simp [litEnv, hm, toVal]
  have key := nil_slice3 (P := P) (und_tab_sl hu) hinfo
  unfold litOp
  rw [if_pos]
  · show ofPR (pur P (do let x ← Instr.sliceAt e (litEnv t (.tmp i)) none (some (litEnv t hi)) (some (litEnv t mx)); pure (Next.value x))) = _
    rw [e0, e1, e2, key]
    rfl
  · simp [notSelect, Op.operands, litAll, ev_tmp, hv, toVal, hh, hm]
theorem a_sl3 {e i : Nat} {hi mx : Operand} (hs : isSl (t.get i) = true) (hT : szOk (tabOf P N) e = true) (hc : CapOk (szE (tabOf P N) e) (t.get i)) :
    aop P (tabOf P N) ⟨d, .slice e (.tmp i) none (some hi) (some mx), ty, ps, af, g⟩ t h = (match evalA t hi, evalA t mx with
      | some (.lit (.int .i64 n)), some (.lit (.int .i64 m)) => slM3 h (t.get i) n m (aSlR P (tabOf P N) ⟨d, .slice e (.tmp i) none (some hi) (some mx), ty, ps, af, g⟩ t h e (.tmp i) none (some hi) (some mx))
      | _, _ => aSlR P (tabOf P N) ⟨d, .slice e (.tmp i) none (some hi) (some mx), ty, ps, af, g⟩ t h e (.tmp i) none (some hi) (some mx)) := by
  have h0 : aop P (tabOf P N) ⟨d, .slice e (.tmp i) none (some hi) (some mx), ty, ps, af, g⟩ t h = aSlice P (tabOf P N) ⟨d, .slice e (.tmp i) none (some hi) (some mx), ty, ps, af, g⟩ t h e (.tmp i) none (some hi) (some mx) := rfl
  rw [h0]
  split
  · rename_i n k hn hk
    unfold slM3
    split
    · rename_i hb
      obtain ⟨hb1, hb2, hb3⟩ := hb
      subst hb2
      obtain ⟨el, z, hu, hz, hzz, h0⟩ := szOk_out hT
      obtain ⟨m, ⟨hv, hm⟩ | ⟨b, off, cap, hv⟩⟩ := SlN.of hs
      · have hl : (lenD (t.get i)) = 0 := by rw [hv]; rfl
        obtain rfl : n = 0 := by omega
        unfold aSlice orLit
        rw [nilSl3_lit hu hz h0 hv hn hk rfl, hv]
        rfl
      · have hl : (lenD (t.get i)) = m := by rw [hv]; rfl
        have hcap := hc b off m cap hv
        rw [hzz] at hcap
        unfold aSlice orLit
        rw [sl_none (i := i) (by simp [Op.operands]) hv]
        simp only [ev_tmp, optNat, hn, hk, natA_int, if_pos hb1, Option.map_some]
        rw [hv]
        unfold aSlice1
        rw [hu]
        simp only [hz]
        have hbd : boundsA m cap none (some n.toNat) (some n.toNat) = some (0, n.toNat, .kn n.toNat) := by
          unfold boundsA
          simp only [Option.getD_none, capGe_ok (show n.toNat ≤ m by omega) hcap]
          simp
        rw [hbd]
        show (bif capFits z (.kn n.toNat) then _ else _) = _
        simp [capFits, sl3]
    · rfl
  · rfl
end
end Go.Proofs.Ytcnbamdmngaliaa.Ex
end

section

set_option linter.unusedSimpArgs false
set_option linter.unusedVariables false
set_option maxRecDepth 10000
set_option maxHeartbeats 4000000
namespace Go.Proofs.Ytcnbamdmngaliaa.Ex
open Go
/-- A disk: its size, base, bytes (a slice), synced, limit. -/
def dkC (size base : Int) (v : AV) (synced limit : Int) : AB := .cells [.lit (.int .i64 size), .lit (.int .i64 base), v, .lit (.int .i64 synced), .lit (.int .i64 limit)] 55
theorem made_x {H : AH} {d : Nat} {size base synced limit : Int} {v : AV} (hd : H.at d = some (dkC size base v synced limit)) (h0 : 0 < size) :
    WC Try.prog (tabOf Try.prog NT0) S0 23 [.ptr d 0] H fun r h' => h' = H ∧ r = .lit (.bool true) := by
  refine WC_fn Try.func23 rfl rfl ?_
  unfold dkC at hd
  have L := ld_at (T := tabOf Try.prog NT0) hd
  have l := at_lt hd
  have h1 : ((0 : Int) < size) = True := by simp only [eq_iff_iff, iff_true]; omega
  simp only [core, zrA, zrS, zrM, zrL, zrE, reduceCtorEq, zrD, ziE, ziL, ziN, Try.ntmps23, L, l, h1]
theorem end_x {H : AH} {d n : Nat} {size base synced limit : Int} {v : AV} (hd : H.at d = some (dkC size base v synced limit)) (h0 : 0 < size) (hv : isSl v = true) (hn : lenD v = n) (hb : 0 ≤ base ∧ base ≤ 4611686018427387904) (hl : n ≤ 1000000000) :
    WC Try.prog (tabOf Try.prog NT0) S0 24 [.ptr d 0] H fun r h' => h' = H ∧ r = .lit (.int .i64 (base + n)) := by
  refine WC_fn Try.func24 rfl rfl ?_
  have hd' := hd
  unfold dkC at hd
  have L := ld_at (T := tabOf Try.prog NT0) hd
  have l := at_lt hd
  have hw : IntKind.i64.wrap (base + (n : Int)) = base + n := wrap_in (by omega) (by omega)
  simp only [core, zrA, zrS, zrM, zrL, zrE, reduceCtorEq, zrD, ziE, ziL, ziN, Try.ntmps24]
  refine (made_x hd' h0).mono ?_
  rintro _ h1 ⟨rfl, rfl⟩
  simp only [core, zrA, zrS, zrM, zrL, zrE, reduceCtorEq, zrD, ziE, ziL, ziN]
  rw [WB_regionD [0, 1, 2, 3, 4, 5, 6, 7, 8, 9, 10] 1328253880591971339557501110939813888 (by kernel_rfl)]
  repeat ((with_reducible refine WDM_cons ?_; simp only [dw1]; try simp only [dw2, zrA, zrM, zrR, zrO, zrE]); simp only [core, zrA, zrS, zrM, zrL, zrE, reduceCtorEq, zrD, ziE, ziL, ziN, cored, L, l, hv, hn, hw])
theorem in_x {H : AH} {d : Nat} {size base synced limit at_ to : Int} {v : AV} (hd : H.at d = some (dkC size base v synced limit)) :
    WC Try.prog (tabOf Try.prog NT0) S0 62 [.ptr d 0, .lit (.int .i64 at_), .lit (.int .i64 to)] H fun r h' => h' = H ∧ r = .lit (.bool (decide (base ≤ at_) && decide (at_ ≤ to))) := by
  refine WC_fn Try.func62 rfl rfl ?_
  unfold dkC at hd
  have L := ld_at (T := tabOf Try.prog NT0) hd
  have l := at_lt hd
  by_cases c1 : base ≤ at_
  · by_cases c2 : at_ ≤ to
    · simp only [core, zrA, zrS, zrM, zrL, zrE, reduceCtorEq, zrD, ziE, ziL, ziN, Try.ntmps62, L, l, c1, c2]
      try simp
    · simp only [core, zrA, zrS, zrM, zrL, zrE, reduceCtorEq, zrD, ziE, ziL, ziN, Try.ntmps62, L, l, c1, c2]
      try simp
  · simp only [core, zrA, zrS, zrM, zrL, zrE, reduceCtorEq, zrD, ziE, ziL, ziN, Try.ntmps62, L, l, c1, aundef]
    try simp
theorem frozen_x {H : AH} {d n : Nat} {size base synced limit : Int} {v : AV} (hd : H.at d = some (dkC size base v synced limit)) (h0 : 0 < size) (hv : isSl v = true) (hn : lenD v = n) (hb : 0 ≤ base ∧ base ≤ 4611686018427387904) (hl : n ≤ 1000000000) :
    WC Try.prog (tabOf Try.prog NT0) S0 26 [.ptr d 0] H fun r h' => h' = H ∧ r = .lit (.bool (decide (0 ≤ limit) && decide (limit < base + n))) := by
  refine WC_fn Try.func26 rfl rfl ?_
  have hd' := hd
  unfold dkC at hd
  have L := ld_at (T := tabOf Try.prog NT0) hd
  have l := at_lt hd
  simp only [core, zrA, zrS, zrM, zrL, zrE, reduceCtorEq, zrD, ziE, ziL, ziN, Try.ntmps26]
  rw [WB_regionD [0, 1, 2, 3, 4, 5, 6, 7, 8, 9, 10, 12, 13, 14, 15, 11, 16, 17, 18] 2348535863524654754478830198983591111358129086453084853486620925027284134042668365335700141852607154643009536 (by kernel_rfl)]
  repeat ((with_reducible refine WDM_cons ?_; simp only [dw1]; try simp only [dw2, zrA, zrM, zrR, zrO, zrE]); simp only [core, zrA, zrS, zrM, zrL, zrE, reduceCtorEq, zrD, ziE, ziL, ziN, cored, L, l])
  refine (made_x hd' h0).mono ?_
  rintro _ h1 ⟨e1, rfl⟩
  replace e1 := e1.symm
  subst e1
  by_cases c1 : 0 ≤ limit
  · repeat ((with_reducible refine WDM_cons ?_; simp only [dw1]; try simp only [dw2, zrA, zrM, zrR, zrO, zrE]); simp only [core, zrA, zrS, zrM, zrL, zrE, reduceCtorEq, zrD, ziE, ziL, ziN, cored, L, l, c1, aundef])
    refine (end_x hd' h0 hv hn hb hl).mono ?_
    rintro _ h1 ⟨e1, rfl⟩
    replace e1 := e1.symm
    subst e1
    repeat ((with_reducible refine WDM_cons ?_; simp only [dw1]; try simp only [dw2, zrA, zrM, zrR, zrO, zrE]); simp only [core, zrA, zrS, zrM, zrL, zrE, reduceCtorEq, zrD, ziE, ziL, ziN, cored, L, l, c1, aundef])
    try simp
  · repeat ((with_reducible refine WDM_cons ?_; simp only [dw1]; try simp only [dw2, zrA, zrM, zrR, zrO, zrE]); simp only [core, zrA, zrS, zrM, zrL, zrE, reduceCtorEq, zrD, ziE, ziL, ziN, cored, L, l, c1, aundef])
    try simp
theorem base_x {H : AH} {d : Nat} {size base synced limit : Int} {v : AV} (hd : H.at d = some (dkC size base v synced limit)) (h0 : 0 < size) :
    WC Try.prog (tabOf Try.prog NT0) S0 45 [.ptr d 0] H fun r h' => h' = H ∧ r = .lit (.int .i64 base) := by
  refine WC_fn Try.func45 rfl rfl ?_
  have hd' := hd
  unfold dkC at hd
  have L := ld_at (T := tabOf Try.prog NT0) hd
  have l := at_lt hd
  simp only [core, zrA, zrS, zrM, zrL, zrE, reduceCtorEq, zrD, ziE, ziL, ziN, Try.ntmps45]
  refine (made_x hd' h0).mono ?_
  rintro _ h1 ⟨e1, rfl⟩
  replace e1 := e1.symm
  subst e1
  simp only [core, zrA, zrS, zrM, zrL, zrE, reduceCtorEq, zrD, ziE, ziL, ziN, L, l]
theorem synced_x {H : AH} {d : Nat} {size base synced limit : Int} {v : AV} (hd : H.at d = some (dkC size base v synced limit)) (h0 : 0 < size) :
    WC Try.prog (tabOf Try.prog NT0) S0 46 [.ptr d 0] H fun r h' => h' = H ∧ r = .lit (.int .i64 synced) := by
  refine WC_fn Try.func46 rfl rfl ?_
  have hd' := hd
  unfold dkC at hd
  have L := ld_at (T := tabOf Try.prog NT0) hd
  have l := at_lt hd
  simp only [core, zrA, zrS, zrM, zrL, zrE, reduceCtorEq, zrD, ziE, ziL, ziN, Try.ntmps46]
  refine (made_x hd' h0).mono ?_
  rintro _ h1 ⟨e1, rfl⟩
  replace e1 := e1.symm
  subst e1
  simp only [core, zrA, zrS, zrM, zrL, zrE, reduceCtorEq, zrD, ziE, ziL, ziN, L, l]
/-- One block is another one; the others are as they were. -/
structure Mod (d : Nat) (x : AB) (H h' : AH) : Prop where
  n : h'.n = H.n
  at_ : h'.at d = some x
  ne : ∀ b, b ≠ d → h'.at b = H.at b
theorem Mod.refl {d : Nat} {x : AB} {H : AH} (hd : H.at d = some x) : Mod d x H H := ⟨rfl, hd, fun _ _ => rfl⟩
theorem Mod.put {d : Nat} {y : AB} {H : AH} (x : AB) (hd : H.at d = some y) : Mod d x H (H.put d x) := ⟨n_put _ _ _, at_put (at_lt hd), fun b hb => at_put_ne _ (Ne.symm hb)⟩
theorem sync_x {H : AH} {d n : Nat} {size base synced limit : Int} {v : AV} (hd : H.at d = some (dkC size base v synced limit)) (h0 : 0 < size) (hv : isSl v = true) (hn : lenD v = n) (hb : 0 ≤ base ∧ base ≤ 4611686018427387904) (hl : n ≤ 1000000000) :
    WC Try.prog (tabOf Try.prog NT0) S0 11 [.ptr d 0] H fun r h' => r = .tup [] ∧ Mod d (dkC size base v (if 0 ≤ limit ∧ limit < base + n then synced else base + n) limit) H h' := by
  refine WC_fn Try.func11 rfl rfl ?_
  have hd' := hd
  unfold dkC at hd
  have L := ld_at (T := tabOf Try.prog NT0) hd
  have l := at_lt hd
  have hz := hv
  simp only [core, zrA, zrS, zrM, zrL, zrE, reduceCtorEq, zrD, ziE, ziL, ziN, Try.ntmps11]
  refine (made_x hd' h0).mono ?_
  rintro _ h1 ⟨e1, rfl⟩
  replace e1 := e1.symm
  subst e1
  simp only [core, zrA, zrS, zrM, zrL, zrE, reduceCtorEq, zrD, ziE, ziL, ziN]
  refine (frozen_x hd' h0 hv hn hb hl).mono ?_
  rintro _ h1 ⟨e1, rfl⟩
  replace e1 := e1.symm
  subst e1
  by_cases c1 : 0 ≤ limit ∧ limit < base + n
  · have k1 : (decide (0 ≤ limit) && decide (limit < base + (n : Int))) = true := by simp [c1.1, c1.2]
    simp only [core, zrA, zrS, zrM, zrL, zrE, reduceCtorEq, zrD, ziE, ziL, ziN, k1]
    rw [if_pos c1]
    exact ⟨by simp, .refl hd'⟩
  · have k1 : (decide (0 ≤ limit) && decide (limit < base + (n : Int))) = false := by
      rw [Bool.and_eq_false_iff, decide_eq_false_iff_not, decide_eq_false_iff_not]
      omega
    simp only [core, zrA, zrS, zrM, zrL, zrE, reduceCtorEq, zrD, ziE, ziL, ziN, k1]
    refine (end_x hd' h0 hv hn hb hl).mono ?_
    rintro _ h1 ⟨e1, rfl⟩
    replace e1 := e1.symm
    subst e1
    simp only [core, zrA, zrS, zrM, zrL, zrE, reduceCtorEq, zrD, ziE, ziL, ziN, hd, l]
    rw [if_neg c1]
    exact ⟨by simp, .put _ hd'⟩
end Go.Proofs.Ytcnbamdmngaliaa.Ex
end

section

set_option linter.unusedSimpArgs false
set_option linter.unusedVariables false
set_option maxRecDepth 10000
set_option maxHeartbeats 4000000
namespace Go.Proofs.Ytcnbamdmngaliaa.Ex
open Go
theorem newD_x {H : AH} {size : Int} : WC Try.prog (tabOf Try.prog NT0) S0 6 [.lit (.int .i64 size)] H fun r h' =>
    if size < 1 ∨ 67108864 < size then h' = H ∧ r = .tup [.lit (.pointer none), .lit (.int .i64 22)] else h' = H.push (dkC size 0 (.lit (.slice none 0 0)) 0 (-1)) ∧ r = .tup [.ptr H.n 0, .lit (.int .i64 0)] := by
  refine WC_fn Try.func6 rfl rfl ?_
  by_cases c1 : size < 1
  · simp only [core, zrA, zrS, zrM, zrL, zrE, reduceCtorEq, zrD, ziE, ziL, ziN, Try.ntmps6, c1, aundef, true_or, if_true]
    try simp
  · by_cases c2 : 67108864 < size
    · simp only [core, zrA, zrS, zrM, zrL, zrE, reduceCtorEq, zrD, ziE, ziL, ziN, Try.ntmps6, c1, c2, aundef, or_true, if_true]
      try simp
    · simp only [core, zrA, zrS, zrM, zrL, zrE, reduceCtorEq, zrD, ziE, ziL, ziN, Try.ntmps6, c1, c2, aundef, or_self, if_false]
      try simp [dkC]
/-- How many bytes more may come. -/
def armN (n : Int) : Int := if 1099511627776 < (if n < 0 then 0 else n) then 1099511627776 else if n < 0 then 0 else n
def armL (limit e n : Int) : Int := if limit < 0 ∨ e + armN n < limit then e + armN n else limit
theorem armN_le (n : Int) : 0 ≤ armN n ∧ armN n ≤ 1099511627776 := by unfold armN; split <;> split at * <;> omega
theorem arm_x {H : AH} {d n : Nat} {size base synced limit m : Int} {v : AV} (hd : H.at d = some (dkC size base v synced limit)) (h0 : 0 < size) (hv : isSl v = true) (hn : lenD v = n) (hb : 0 ≤ base ∧ base ≤ 4611686018427387904) (hl : n ≤ 1000000000) :
    WC Try.prog (tabOf Try.prog NT0) S0 40 [.ptr d 0, .lit (.int .i64 m)] H fun r h' => r = .tup [] ∧ Mod d (dkC size base v synced (armL limit (base + n) m)) H h' := by
  refine WC_fn Try.func40 rfl rfl ?_
  have hd' := hd
  unfold dkC at hd
  have L := ld_at (T := tabOf Try.prog NT0) hd
  have l := at_lt hd
  have hm := armN_le m
  simp only [core, zrA, zrS, zrM, zrL, zrE, reduceCtorEq, zrD, ziE, ziL, ziN, Try.ntmps40]
  refine (made_x hd' h0).mono ?_
  rintro _ h1 ⟨e1, rfl⟩
  replace e1 := e1.symm
  subst e1
  simp only [core, zrA, zrS, zrM, zrL, zrE, reduceCtorEq, zrD, ziE, ziL, ziN]
  refine (end_x hd' h0 hv hn hb hl).mono ?_
  rintro _ h1 ⟨e1, rfl⟩
  replace e1 := e1.symm
  subst e1
  have hA0 : (if (1099511627776 : Int) < (if m < 0 then 0 else m) then 1099511627776 else if m < 0 then 0 else m) = armN m := rfl
  unfold armL
  rw [hA0]
  obtain ⟨A, hA⟩ : ∃ A, A = armN m := ⟨_, rfl⟩
  rw [← hA] at hm ⊢
  clear hA0
  have hw : IntKind.i64.wrap (base + (n : Int) + A) = base + n + A := wrap_in (by omega) (by omega)
  by_cases c1 : limit < 0
  · rw [show (if limit < 0 ∨ base + (n : Int) + A < limit then base + (n : Int) + A else limit) = base + (n : Int) + A from if_pos (.inl c1)]
    simp only [core, zrA, zrS, zrM, zrL, zrE, reduceCtorEq, zrD, ziE, ziL, ziN, L, l, hd, hw, c1, aundef]
    exact ⟨by simp, .put _ hd'⟩
  · by_cases c2 : base + (n : Int) + A < limit
    · rw [show (if limit < 0 ∨ base + (n : Int) + A < limit then base + (n : Int) + A else limit) = base + (n : Int) + A from if_pos (.inr c2)]
      simp only [core, zrA, zrS, zrM, zrL, zrE, reduceCtorEq, zrD, ziE, ziL, ziN, L, l, hd, hw, c1, c2, aundef]
      exact ⟨by simp, .put _ hd'⟩
    · rw [show (if limit < 0 ∨ base + (n : Int) + A < limit then base + (n : Int) + A else limit) = limit from if_neg (fun h => h.elim c1 c2)]
      simp only [core, zrA, zrS, zrM, zrL, zrE, reduceCtorEq, zrD, ziE, ziL, ziN, L, l, hd, hw, c1, c2, aundef]
      exact ⟨by simp, .refl hd'⟩
end Go.Proofs.Ytcnbamdmngaliaa.Ex
end

section

set_option linter.unusedSimpArgs false
set_option linter.unusedVariables false
set_option maxRecDepth 10000
set_option maxHeartbeats 4000000
namespace Go.Proofs.Ytcnbamdmngaliaa.Ex
open Go
def ekC (size base : Int) (v : AV) (synced limit : Int) : AB := .cells [.lit (.int .i64 size), .lit (.int .i64 base), .lit (.int .i64 synced), v, .lit (.int .i64 limit)] 57
theorem newE_x {H : AH} {size : Int} : WC Try.prog (tabOf Try.prog NT0) S0 7 [.lit (.int .i64 size)] H fun r h' =>
    if size < 1 ∨ 67108864 < size then h' = H ∧ r = .tup [.lit (.pointer none), .lit (.int .i64 22)] else h' = H.push (ekC size 0 (.lit (.slice none 0 0)) 0 (-1)) ∧ r = .tup [.ptr H.n 0, .lit (.int .i64 0)] := by
  refine WC_fn Try.func7 rfl rfl ?_
  by_cases c1 : size < 1
  · simp only [core, zrA, zrS, zrM, zrL, zrE, reduceCtorEq, zrD, ziE, ziL, ziN, Try.ntmps7, c1, aundef, true_or, if_true]
    try simp
  · by_cases c2 : 67108864 < size
    · simp only [core, zrA, zrS, zrM, zrL, zrE, reduceCtorEq, zrD, ziE, ziL, ziN, Try.ntmps7, c1, c2, aundef, or_true, if_true]
      try simp
    · simp only [core, zrA, zrS, zrM, zrL, zrE, reduceCtorEq, zrD, ziE, ziL, ziN, Try.ntmps7, c1, c2, aundef, or_self, if_false]
      try simp [ekC]
theorem endE_x {H : AH} {d n : Nat} {size base synced limit : Int} {v : AV} (hd : H.at d = some (ekC size base v synced limit)) (hv : isSl v = true) (hn : lenD v = n) (hb : 0 ≤ base ∧ base ≤ 4611686018427387904) (hl : n ≤ 1000000000) :
    WC Try.prog (tabOf Try.prog NT0) S0 25 [.ptr d 0] H fun r h' => h' = H ∧ r = .lit (.int .i64 (base + n)) := by
  refine WC_fn Try.func25 rfl rfl ?_
  unfold ekC at hd
  have L := ld_at (T := tabOf Try.prog NT0) hd
  have l := at_lt hd
  have hw : IntKind.i64.wrap (base + (n : Int)) = base + n := wrap_in (by omega) (by omega)
  simp only [core, zrA, zrS, zrM, zrL, zrE, reduceCtorEq, zrD, ziE, ziL, ziN, Try.ntmps25]
  rw [WB_regionD [0, 1, 2, 3, 4, 5, 6, 7, 8, 9, 10] 1328253880591971339557501110939813888 (by kernel_rfl)]
  repeat ((with_reducible refine WDM_cons ?_; simp only [dw1]; try simp only [dw2, zrA, zrM, zrR, zrO, zrE]); simp only [core, zrA, zrS, zrM, zrL, zrE, reduceCtorEq, zrD, ziE, ziL, ziN, cored, L, l, hv, hn, hw])
theorem frozenE_x {H : AH} {d n : Nat} {size base synced limit : Int} {v : AV} (hd : H.at d = some (ekC size base v synced limit)) (hv : isSl v = true) (hn : lenD v = n) (hb : 0 ≤ base ∧ base ≤ 4611686018427387904) (hl : n ≤ 1000000000) :
    WC Try.prog (tabOf Try.prog NT0) S0 27 [.ptr d 0] H fun r h' => h' = H ∧ r = .lit (.bool (decide (0 ≤ limit) && decide (limit < base + n))) := by
  refine WC_fn Try.func27 rfl rfl ?_
  have hd' := hd
  unfold ekC at hd
  have L := ld_at (T := tabOf Try.prog NT0) hd
  have l := at_lt hd
  simp only [core, zrA, zrS, zrM, zrL, zrE, reduceCtorEq, zrD, ziE, ziL, ziN, Try.ntmps27]
  rw [WB_regionD [0, 1, 2, 3, 4, 5, 6, 8, 9, 10, 11, 7, 12, 13, 14] 26958712494791491002811016313953058214472518385582176639538172035072 (by kernel_rfl)]
  by_cases c1 : 0 ≤ limit
  · repeat ((with_reducible refine WDM_cons ?_; simp only [dw1]; try simp only [dw2, zrA, zrM, zrR, zrO, zrE]); simp only [core, zrA, zrS, zrM, zrL, zrE, reduceCtorEq, zrD, ziE, ziL, ziN, cored, L, l, c1, aundef])
    refine (endE_x hd' hv hn hb hl).mono ?_
    rintro _ h1 ⟨e1, rfl⟩
    replace e1 := e1.symm
    subst e1
    repeat ((with_reducible refine WDM_cons ?_; simp only [dw1]; try simp only [dw2, zrA, zrM, zrR, zrO, zrE]); simp only [core, zrA, zrS, zrM, zrL, zrE, reduceCtorEq, zrD, ziE, ziL, ziN, cored, L, l, c1, aundef])
    try simp
  · repeat ((with_reducible refine WDM_cons ?_; simp only [dw1]; try simp only [dw2, zrA, zrM, zrR, zrO, zrE]); simp only [core, zrA, zrS, zrM, zrL, zrE, reduceCtorEq, zrD, ziE, ziL, ziN, cored, L, l, c1, aundef])
    try simp
theorem syncE_x {H : AH} {d n : Nat} {size base synced limit : Int} {v : AV} (hd : H.at d = some (ekC size base v synced limit)) (hv : isSl v = true) (hn : lenD v = n) (hb : 0 ≤ base ∧ base ≤ 4611686018427387904) (hl : n ≤ 1000000000) :
    WC Try.prog (tabOf Try.prog NT0) S0 12 [.ptr d 0] H fun r h' => r = .tup [] ∧ Mod d (ekC size base v (if 0 ≤ limit ∧ limit < base + n then synced else base + n) limit) H h' := by
  refine WC_fn Try.func12 rfl rfl ?_
  have hd' := hd
  unfold ekC at hd
  have L := ld_at (T := tabOf Try.prog NT0) hd
  have l := at_lt hd
  simp only [core, zrA, zrS, zrM, zrL, zrE, reduceCtorEq, zrD, ziE, ziL, ziN, Try.ntmps12]
  refine (frozenE_x hd' hv hn hb hl).mono ?_
  rintro _ h1 ⟨e1, rfl⟩
  replace e1 := e1.symm
  subst e1
  by_cases c1 : 0 ≤ limit ∧ limit < base + n
  · have k1 : (decide (0 ≤ limit) && decide (limit < base + (n : Int))) = true := by simp [c1.1, c1.2]
    simp only [core, zrA, zrS, zrM, zrL, zrE, reduceCtorEq, zrD, ziE, ziL, ziN, k1]
    rw [if_pos c1]
    exact ⟨by simp, .refl hd'⟩
  · have k1 : (decide (0 ≤ limit) && decide (limit < base + (n : Int))) = false := by
      rw [Bool.and_eq_false_iff, decide_eq_false_iff_not, decide_eq_false_iff_not]
      omega
    simp only [core, zrA, zrS, zrM, zrL, zrE, reduceCtorEq, zrD, ziE, ziL, ziN, k1]
    refine (endE_x hd' hv hn hb hl).mono ?_
    rintro _ h1 ⟨e1, rfl⟩
    replace e1 := e1.symm
    subst e1
    simp only [core, zrA, zrS, zrM, zrL, zrE, reduceCtorEq, zrD, ziE, ziL, ziN, hd, l]
    rw [if_neg c1]
    exact ⟨by simp, .put _ hd'⟩
theorem armE_x {H : AH} {d n : Nat} {size base synced limit m : Int} {v : AV} (hd : H.at d = some (ekC size base v synced limit)) (hv : isSl v = true) (hn : lenD v = n) (hb : 0 ≤ base ∧ base ≤ 4611686018427387904) (hl : n ≤ 1000000000) :
    WC Try.prog (tabOf Try.prog NT0) S0 41 [.ptr d 0, .lit (.int .i64 m)] H fun r h' => r = .tup [] ∧ Mod d (ekC size base v synced (armL limit (base + n) m)) H h' := by
  refine WC_fn Try.func41 rfl rfl ?_
  have hd' := hd
  unfold ekC at hd
  have L := ld_at (T := tabOf Try.prog NT0) hd
  have l := at_lt hd
  have hm := armN_le m
  simp only [core, zrA, zrS, zrM, zrL, zrE, reduceCtorEq, zrD, ziE, ziL, ziN, Try.ntmps41]
  have hw0 : IntKind.i64.wrap (base + (n : Int) + 0) = base + n := (wrap_in (by omega) (by omega)).trans (by omega)
  have hwm : IntKind.i64.wrap (base + (n : Int) + 1099511627776) = base + n + 1099511627776 := wrap_in (by omega) (by omega)
  by_cases c1 : m < 0
  · have hA : armN m = 0 := by simp [armN, c1]
    simp only [core, zrA, zrS, zrM, zrL, zrE, reduceCtorEq, zrD, ziE, ziL, ziN, c1]
    refine (endE_x hd' hv hn hb hl).mono ?_
    rintro _ h1 ⟨e1, rfl⟩
    replace e1 := e1.symm
    subst e1
    unfold armL
    rw [hA, Int.add_zero]
    by_cases c3 : limit < 0
    · simp only [core, zrA, zrS, zrM, zrL, zrE, reduceCtorEq, zrD, ziE, ziL, ziN, hd, L, l, hw0, c1, c3, aundef, true_or]
      first | exact .put _ hd' | exact ⟨by simp, .put _ hd'⟩
    · by_cases c4 : base + (n : Int) < limit
      · simp only [core, zrA, zrS, zrM, zrL, zrE, reduceCtorEq, zrD, ziE, ziL, ziN, hd, L, l, hw0, c1, c3, c4, aundef]
        first | exact .put _ hd' | exact ⟨by simp, .put _ hd'⟩
      · simp only [core, zrA, zrS, zrM, zrL, zrE, reduceCtorEq, zrD, ziE, ziL, ziN, hd, L, l, hw0, c1, c3, c4, aundef, or_self]
        first | exact .refl hd' | exact ⟨by simp, .refl hd'⟩
  · by_cases c2 : 1099511627776 < m
    · have hA : armN m = 1099511627776 := by simp [armN, c1, c2]
      simp only [core, zrA, zrS, zrM, zrL, zrE, reduceCtorEq, zrD, ziE, ziL, ziN, c1, c2]
      refine (endE_x hd' hv hn hb hl).mono ?_
      rintro _ h1 ⟨e1, rfl⟩
      replace e1 := e1.symm
      subst e1
      unfold armL
      rw [hA]
      by_cases c3 : limit < 0
      · simp only [core, zrA, zrS, zrM, zrL, zrE, reduceCtorEq, zrD, ziE, ziL, ziN, hd, L, l, hwm, c1, c2, c3, aundef, true_or]
        first | exact .put _ hd' | exact ⟨by simp, .put _ hd'⟩
      · by_cases c4 : base + (n : Int) + 1099511627776 < limit
        · simp only [core, zrA, zrS, zrM, zrL, zrE, reduceCtorEq, zrD, ziE, ziL, ziN, hd, L, l, hwm, c1, c2, c3, c4, aundef]
          first | exact .put _ hd' | exact ⟨by simp, .put _ hd'⟩
        · simp only [core, zrA, zrS, zrM, zrL, zrE, reduceCtorEq, zrD, ziE, ziL, ziN, hd, L, l, hwm, c1, c2, c3, c4, aundef, or_self]
          first | exact .refl hd' | exact ⟨by simp, .refl hd'⟩
    · have hA : armN m = m := by simp [armN, c1, c2]
      have hwn : IntKind.i64.wrap (base + (n : Int) + m) = base + n + m := wrap_in (by omega) (by omega)
      simp only [core, zrA, zrS, zrM, zrL, zrE, reduceCtorEq, zrD, ziE, ziL, ziN, c1, c2]
      refine (endE_x hd' hv hn hb hl).mono ?_
      rintro _ h1 ⟨e1, rfl⟩
      replace e1 := e1.symm
      subst e1
      unfold armL
      rw [hA]
      by_cases c3 : limit < 0
      · simp only [core, zrA, zrS, zrM, zrL, zrE, reduceCtorEq, zrD, ziE, ziL, ziN, hd, L, l, hwn, c1, c2, c3, aundef, true_or]
        first | exact .put _ hd' | exact ⟨by simp, .put _ hd'⟩
      · by_cases c4 : base + (n : Int) + m < limit
        · simp only [core, zrA, zrS, zrM, zrL, zrE, reduceCtorEq, zrD, ziE, ziL, ziN, hd, L, l, hwn, c1, c2, c3, c4, aundef]
          first | exact .put _ hd' | exact ⟨by simp, .put _ hd'⟩
        · simp only [core, zrA, zrS, zrM, zrL, zrE, reduceCtorEq, zrD, ziE, ziL, ziN, hd, L, l, hwn, c1, c2, c3, c4, aundef, or_self]
          first | exact .refl hd' | exact ⟨by simp, .refl hd'⟩
end Go.Proofs.Ytcnbamdmngaliaa.Ex
end

section

set_option linter.unusedSimpArgs false
set_option linter.unusedVariables false
set_option maxRecDepth 10000
set_option maxHeartbeats 4000000
namespace Go.Proofs.Ytcnbamdmngaliaa.Ex
open Go
theorem appendD_x {H : AH} {d n0 : Nat} {size base synced limit : Int} {v x : AV} {xs ys : List UInt8} {F : Nat → Prop} (hd : H.at d = some (dkC size base v synced limit)) (h0 : 0 < size) (hs : size ≤ 67108864) (hb : 0 ≤ base ∧ base ≤ 4611686018427387904)
    (ho : VwB n0 H v xs) (hl : (xs.length : Int) ≤ size) (hx : IsSl RByte F H x ys) (hy : ys.length ≤ 1000000000) (hn0 : n0 ≤ H.n) :
    WC Try.prog (tabOf Try.prog NT0) S0 9 [.ptr d 0, x] H fun r h' => if size - xs.length < ys.length then h' = H ∧ r = .tup [.lit (.int .i64 0), .lit (.int .i64 28)]
      else r = .tup [.lit (.int .i64 (base + xs.length)), .lit (.int .i64 0)] ∧ ∃ v', h'.at d = some (dkC size base v' synced limit) ∧ VwB n0 h' v' (xs ++ ys) ∧ Chg [d] v v' H h' := by
  refine WC_fn Try.func9 rfl rfl ?_
  have hd' := hd
  unfold dkC at hd
  have L := ld_at (T := tabOf Try.prog NT0) hd
  have l := at_lt hd
  have v1 := ho.isSl
  have v2 := ho.lenD
  have x1 := hx.isSl
  have x2 := hx.lenD
  have hw : IntKind.i64.wrap (size - (xs.length : Int)) = size - xs.length := wrap_in (by omega) (by omega)
  simp only [core, zrA, zrS, zrM, zrL, zrE, reduceCtorEq, zrD, ziE, ziL, ziN, Try.ntmps9]
  refine (made_x hd' h0).mono ?_
  rintro _ h1 ⟨e1, rfl⟩
  replace e1 := e1.symm
  subst e1
  by_cases c : size - (xs.length : Int) < ys.length
  · simp only [if_pos c]
    simp only [core, zrA, zrS, zrM, zrL, zrE, reduceCtorEq, zrD, ziE, ziL, ziN]
    rw [WB_regionD [0, 1, 2, 3, 4, 5, 6, 7, 8, 9, 10, 11, 12] 374075867972729593563154991592821759488596599906304 (by kernel_rfl)]
    repeat ((with_reducible refine WDM_cons ?_; simp only [dw1]; try simp only [dw2, zrA, zrM, zrR, zrO, zrE]); simp only [core, zrA, zrS, zrM, zrL, zrE, reduceCtorEq, zrD, ziE, ziL, ziN, cored, L, l, v1, v2, x1, x2, hw, c])
    try simp
  · simp only [if_neg c]
    simp only [core, zrA, zrS, zrM, zrL, zrE, reduceCtorEq, zrD, ziE, ziL, ziN]
    rw [WB_regionD [0, 1, 2, 3, 4, 5, 6, 7, 8, 9, 10, 11, 12] 374075867972729593563154991592821759488596599906304 (by kernel_rfl)]
    repeat ((with_reducible refine WDM_cons ?_; simp only [dw1]; try simp only [dw2, zrA, zrM, zrR, zrO, zrE]); simp only [core, zrA, zrS, zrM, zrL, zrE, reduceCtorEq, zrD, ziE, ziL, ziN, cored, L, l, v1, v2, x1, x2, hw, c])
    refine (end_x hd' h0 v1 v2 hb (by omega)).mono ?_
    rintro _ h1 ⟨e1, rfl⟩
    replace e1 := e1.symm
    subst e1
    simp only [core, zrA, zrS, zrM, zrL, zrE, reduceCtorEq, zrD, ziE, ziL, ziN, L, l]
    refine WOp_app (ho.app hx (by omega) hn0) ?_
    rintro v' h1 ⟨ho1, c1, -⟩
    have ap := ho.sep hd (by decide)
    obtain ⟨k1, ap1⟩ := c1.k d l (by simp) ap
    rw [hd] at k1
    have L1 := ld_at (T := tabOf Try.prog NT0) k1
    have l1 := at_lt k1
    have w1 := ho1.isSl
    have w2 := ho1.one
    simp only [core, zrA, zrS, zrM, zrL, zrE, reduceCtorEq, zrD, ziE, ziL, ziN, L1, l1, k1, w1, w2]
    refine ⟨v', rfl, ho1.lift fun b off n cap e => at_put_ne _ (fun eb => ap1 off n cap (by rw [e, eb])), (c1.mono (by simp)).trans (.put _ (by simp))⟩
end Go.Proofs.Ytcnbamdmngaliaa.Ex
end

section

set_option linter.unusedSimpArgs false
set_option linter.unusedVariables false
namespace Go.Proofs.Ytcnbamdmngaliaa
open Go.RowKit
section
variable {P : Program} {ops : Array Oper} {md : Region.Mode} {C S : World → Prop}
end
end Go.Proofs.Ytcnbamdmngaliaa
end

section

set_option linter.unusedSimpArgs false
set_option linter.unusedVariables false
namespace Go.Proofs.Ytcnbamdmngaliaa
open Go.RowKit
/-- Bytes as a number, the lowest first. -/
def leN : List UInt8 → Nat
  | [] => 0
  | b :: r => b.toNat + 256 * leN r
theorem leN_lt (l : List UInt8) : leN l < 256 ^ l.length := by
  induction l with
  | nil => simp [leN]
  | cons b r ih =>
    have := UInt8.toNat_lt b
    simp only [leN, List.length_cons, Nat.pow_succ]
    omega
theorem leN_snoc (l : List UInt8) (b : UInt8) : leN (l ++ [b]) = leN l + b.toNat * 256 ^ l.length := by
  induction l with
  | nil => simp [leN]
  | cons c r ih =>
    simp only [List.cons_append, leN, ih, List.length_cons, Nat.pow_succ]
    rw [Nat.mul_add, Nat.mul_comm (256 ^ r.length) 256, ← Nat.mul_assoc, ← Nat.mul_assoc, Nat.mul_comm 256 b.toNat]
    omega
theorem leN_take (bs : List UInt8) (k : Nat) (hk : k < bs.length) : leN (bs.take (k + 1)) = leN (bs.take k) + bs[k].toNat * 256 ^ k := by
  rw [List.take_succ_eq_append_getElem hk, leN_snoc, List.length_take, Nat.min_eq_left (by omega)]
theorem or_high (V B k : Nat) (hV : V < 256 ^ k) (hB : B < 256) (hk : k < 8) : bits BinOp.or IntKind.u64 (V : Int) (IntKind.u64.wrap ((B : Int) * 2 ^ (8 * k))) = ((V + B * 256 ^ k : Nat) : Int) := by
  have hp : (256 : Nat) ^ k = 2 ^ (8 * k) := by rw [Nat.pow_mul]
  have h8 : 256 ^ (k + 1) ≤ 256 ^ 8 := Nat.pow_le_pow_right (by decide) (by omega)
  have hBk : B * 256 ^ k + 256 ^ k ≤ 256 ^ (k + 1) := by rw [Nat.pow_succ, Nat.mul_comm (256 ^ k) 256, ← Nat.succ_mul]; exact Nat.mul_le_mul_right _ hB
  have h64 : (256 : Nat) ^ 8 = 18446744073709551616 := by decide
  have e0 : IntKind.u64.wrap ((B : Int) * 2 ^ (8 * k)) = ((B * 256 ^ k : Nat) : Int) := by
    have e : (B : Int) * 2 ^ (8 * k) = ((B * 256 ^ k : Nat) : Int) := by rw [hp]; push_cast; rfl
    rw [e]
    have : IntKind.u64.wrap ((B * 256 ^ k : Nat) : Int) = ((B * 256 ^ k : Nat) : Int) % 18446744073709551616 := by simp [IntKind.wrap, IntKind.bits, IntKind.signed]
    rw [this]
    omega
  rw [e0, (bits_nat .u64 64 (by decide) (fun n h0 h1 => by
    have : IntKind.u64.wrap n = n % 18446744073709551616 := by simp [IntKind.wrap, IntKind.bits, IntKind.signed]
    rw [this]; omega) V (B * 256 ^ k) (by omega) (by omega)).2]
  congr 1
  rw [Nat.or_comm, hp, Nat.mul_comm B, ← Nat.two_pow_add_eq_or_of_lt (by rw [← hp]; exact hV), Nat.add_comm]
end Go.Proofs.Ytcnbamdmngaliaa
end

section

set_option linter.unusedSimpArgs false
set_option linter.unusedVariables false
namespace Go.Proofs.Ytcnbamdmngaliaa
open Go.RowKit
/-- What Unframe answers: the content, how far, the error. -/
def unfr (bs : List UInt8) : List UInt8 × Nat × Nat :=
  if bs.length < 8 then ([], 0, 11)
  else
    let n := leN (bs.take 4)
    if 524288 < n then ([], 0, 27)
    else if (bs.drop 8).length < n then ([], 0, 11)
    else if crcN ((bs.drop 8).take n) ≠ leN ((bs.drop 4).take 4) then ([], 0, 74)
    else ((bs.drop 8).take n, n + 8, 0)
/-- How a slice of bytes that is new is handed back. -/
def Fresh (w w' : World) (v : Value) (bs : List UInt8) : Prop := ∃ g, Own w' 5 1 v bs.length (bs.map bv) g ∧ ∀ k, g = some k → w.heap.size ≤ k
theorem Fresh.nil (w w' : World) : Fresh w w' (.slice none 0 0) [] := ⟨none, Own.nil _ _ _, fun k h => by cases h⟩
end Go.Proofs.Ytcnbamdmngaliaa
end

section

set_option linter.unusedSimpArgs false
set_option linter.unusedVariables false
namespace Go.Proofs.Ytcnbamdmngaliaa
open Go.RowKit
/-- So many bytes of a number, the lowest first. -/
def leB : Nat → Nat → List UInt8
  | 0, _ => []
  | k + 1, n => UInt8.ofNat (n % 256) :: leB k (n / 256)
theorem leB_length (k n : Nat) : (leB k n).length = k := by
  induction k generalizing n with
  | zero => rfl
  | succ k ih => simp [leB, ih]
theorem leN_leB (k n : Nat) : leN (leB k n) = n % 256 ^ k := by
  induction k generalizing n with
  | zero => simp [leB, leN, Nat.mod_one]
  | succ k ih =>
    simp only [leB, leN, ih, UInt8.toNat_ofNat']
    rw [show (256 : Nat) ^ (k + 1) = 256 * 256 ^ k by rw [Nat.pow_succ, Nat.mul_comm], Nat.mod_mul]
    omega
/-- A frame. -/
def frameB (bs : List UInt8) : List UInt8 := leB 4 bs.length ++ leB 4 (crcN bs) ++ bs
end Go.Proofs.Ytcnbamdmngaliaa
end

section

set_option linter.unusedSimpArgs false
set_option linter.unusedVariables false
namespace Go.Proofs.Ytcnbamdmngaliaa
theorem unfr_out {bs c : List UInt8} {n : Nat} (h : unfr bs = (c, n, 0)) : 8 ≤ bs.length ∧ n = leN (bs.take 4) + 8 ∧ leN (bs.take 4) ≤ 524288 ∧ n ≤ bs.length ∧ c = (bs.drop 8).take (n - 8) ∧ crcN c = leN ((bs.drop 4).take 4) := by
  unfold unfr at h
  by_cases h8 : bs.length < 8
  · rw [if_pos h8] at h; simp at h
  rw [if_neg h8] at h
  dsimp only at h
  by_cases h1 : 524288 < leN (bs.take 4)
  · rw [if_pos h1] at h; simp at h
  rw [if_neg h1] at h
  by_cases h2 : (bs.drop 8).length < leN (bs.take 4)
  · rw [if_pos h2] at h; simp at h
  rw [if_neg h2] at h
  by_cases h3 : crcN ((bs.drop 8).take (leN (bs.take 4))) ≠ leN ((bs.drop 4).take 4)
  · rw [if_pos h3] at h; simp at h
  rw [if_neg h3] at h
  simp only [Prod.mk.injEq, and_true] at h
  obtain ⟨rfl, rfl⟩ := h
  rw [List.length_drop] at h2
  refine ⟨by omega, rfl, by omega, by omega, by rw [Nat.add_sub_cancel], Classical.not_not.1 h3⟩
theorem unfr_in {bs c : List UInt8} {n : Nat} (h8 : 8 ≤ bs.length) (hn : n = leN (bs.take 4) + 8) (hm : leN (bs.take 4) ≤ 524288) (hl : n ≤ bs.length) (hc : c = (bs.drop 8).take (n - 8)) (hs : crcN c = leN ((bs.drop 4).take 4)) : unfr bs = (c, n, 0) := by
  subst hn
  rw [Nat.add_sub_cancel] at hc
  subst hc
  unfold unfr
  rw [if_neg (by omega)]
  dsimp only
  rw [if_neg (by omega), if_neg (by rw [List.length_drop]; omega), if_neg (fun h => h hs)]
theorem unfr_app {bs c x : List UInt8} {n : Nat} (h : unfr bs = (c, n, 0)) : unfr (bs ++ x) = (c, n, 0) := by
  obtain ⟨h1, h2, h3, h4, h5, h6⟩ := unfr_out h
  have e1 : (bs ++ x).take 4 = bs.take 4 := List.take_append_of_le_length (by omega)
  have e2 : (bs ++ x).drop 4 = bs.drop 4 ++ x := List.drop_append_of_le_length (by omega)
  have e3 : (bs ++ x).drop 8 = bs.drop 8 ++ x := List.drop_append_of_le_length (by omega)
  refine unfr_in (by rw [List.length_append]; omega) (by rw [e1]; exact h2) (by rw [e1]; exact h3) (by rw [List.length_append]; omega) ?_ ?_
  · rw [e3, List.take_append_of_le_length (by rw [List.length_drop]; omega)]; exact h5
  · rw [e2, List.take_append_of_le_length (by rw [List.length_drop]; omega)]; exact h6
theorem unfr_pre {y r c : List UInt8} {n : Nat} (h : unfr (y ++ r) = (c, n, 0)) (hn : n ≤ y.length) : unfr y = (c, n, 0) := by
  obtain ⟨h1, h2, h3, h4, h5, h6⟩ := unfr_out h
  have h8 : 8 ≤ y.length := by omega
  have e1 : (y ++ r).take 4 = y.take 4 := List.take_append_of_le_length (by omega)
  have e2 : (y ++ r).drop 4 = y.drop 4 ++ r := List.drop_append_of_le_length (by omega)
  have e3 : (y ++ r).drop 8 = y.drop 8 ++ r := List.drop_append_of_le_length (by omega)
  rw [e1] at h2 h3
  rw [e3, List.take_append_of_le_length (by rw [List.length_drop]; omega)] at h5
  rw [e2, List.take_append_of_le_length (by rw [List.length_drop]; omega)] at h6
  exact unfr_in h8 h2 h3 hn h5 h6
theorem unfr_nil : (unfr []).2.2 ≠ 0 := by decide
theorem unfr_frame {b : List UInt8} (hb : b.length ≤ 524288) : unfr (frameB b) = (b, b.length + 8, 0) := by
  have hc := crcN_lt b
  have l4 := leB_length 4 b.length
  have l5 := leB_length 4 (crcN b)
  have e0 : frameB b = leB 4 b.length ++ (leB 4 (crcN b) ++ b) := by unfold frameB; rw [List.append_assoc]
  have e1 : (frameB b).take 4 = leB 4 b.length := by rw [e0]; exact List.take_left' l4
  have e2 : (frameB b).drop 4 = leB 4 (crcN b) ++ b := by rw [e0]; exact List.drop_left' l4
  have e3 : (frameB b).drop 8 = b := by
    rw [show 8 = 4 + 4 from rfl, ← List.drop_drop, e2]
    exact List.drop_left' l5
  have hl : (frameB b).length = b.length + 8 := by rw [e0, List.length_append, List.length_append, l4, l5]; omega
  refine unfr_in (by omega) ?_ ?_ (by omega) ?_ ?_
  · rw [e1, leN_leB]; omega
  · rw [e1, leN_leB]; omega
  · rw [e3, Nat.add_sub_cancel, List.take_length]
  · rw [e2, List.take_append_of_le_length (by rw [l5]; exact Nat.le_refl 4), List.take_of_length_le (by rw [l5]; exact Nat.le_refl 4), leN_leB]
    exact (Nat.mod_eq_of_lt hc).symm
/-! Records one behind another. -/
abbrev RecL := List (Int × List UInt8)
inductive Stp (at0 : Int) (bs : List UInt8) : RecL → Int → List UInt8 → Prop
  | nil : Stp at0 bs [] at0 bs
  | snoc {l : RecL} {a : Int} {r c : List UInt8} {n : Nat} (h : Stp at0 bs l a r) (hu : unfr r = (c, n, 0)) : Stp at0 bs (l ++ [(a, c)]) (a + n) (r.drop n)
theorem Stp.len {at0 a : Int} {bs r : List UInt8} {l : RecL} (h : Stp at0 bs l a r) : r.length ≤ bs.length ∧ a = at0 + ((bs.length - r.length : Nat) : Int) := by
  induction h with
  | nil => simp
  | snoc h hu ih =>
    obtain ⟨-, h2, -, h4, -⟩ := unfr_out hu
    rw [List.length_drop]
    exact ⟨by omega, by omega⟩
theorem Stp.cons {at0 a : Int} {bs r c : List UInt8} {l : RecL} {n : Nat} (hu : unfr bs = (c, n, 0)) (h : Stp (at0 + n) (bs.drop n) l a r) : Stp at0 bs ((at0, c) :: l) a r := by
  induction h with
  | nil => exact Stp.snoc .nil hu
  | snoc h hv ih => exact ih.snoc hv
theorem Stp.head {at0 a : Int} {bs r : List UInt8} {l : RecL} (h : Stp at0 bs l a r) : (l = [] ∧ a = at0 ∧ r = bs) ∨ ∃ c n l', unfr bs = (c, n, 0) ∧ l = (at0, c) :: l' ∧ Stp (at0 + n) (bs.drop n) l' a r := by
  induction h with
  | nil => exact .inl ⟨rfl, rfl, rfl⟩
  | snoc h hu ih =>
    rcases ih with ⟨rfl, rfl, rfl⟩ | ⟨c, n, l', h1, rfl, h3⟩
    · exact .inr ⟨_, _, [], hu, rfl, .nil⟩
    · exact .inr ⟨c, n, _, h1, rfl, h3.snoc hu⟩
/-- All that there are. -/
def Full (at0 : Int) (bs : List UInt8) (l : RecL) (a : Int) (r : List UInt8) : Prop := Stp at0 bs l a r ∧ (unfr r).2.2 ≠ 0
theorem Full.uniq : ∀ (l l' : RecL) {at0 a a' : Int} {bs r r' : List UInt8}, Full at0 bs l a r → Full at0 bs l' a' r' → l = l' ∧ a = a' ∧ r = r'
  | l, l', at0, a, a', bs, r, r', h, h' => by
    rcases h.1.head with ⟨rfl, rfl, rfl⟩ | ⟨c, n, m, h1, rfl, h3⟩
    · rcases h'.1.head with ⟨rfl, rfl, rfl⟩ | ⟨c, n, m, h1, rfl, h3⟩
      · exact ⟨rfl, rfl, rfl⟩
      · exact absurd (by rw [h1]) h.2
    · rcases h'.1.head with ⟨rfl, rfl, rfl⟩ | ⟨c', n', m', h1', rfl, h3'⟩
      · exact absurd (by rw [h1]) h'.2
      · rw [h1] at h1'
        simp only [Prod.mk.injEq, and_true] at h1'
        obtain ⟨rfl, rfl⟩ := h1'
        obtain ⟨rfl, rfl, rfl⟩ := Full.uniq m m' ⟨h3, h.2⟩ ⟨h3', h'.2⟩
        exact ⟨rfl, rfl, rfl⟩
termination_by l => l.length
theorem Stp.app {at0 a : Int} {bs r x : List UInt8} {l : RecL} (h : Stp at0 bs l a r) : Stp at0 (bs ++ x) l a (r ++ x) := by
  induction h with
  | nil => exact .nil
  | snoc h hu ih =>
    obtain ⟨-, -, -, h4, -⟩ := unfr_out hu
    have := ih.snoc (unfr_app (x := x) hu)
    rw [List.drop_append_of_le_length h4] at this
    exact this
theorem Full.frame {at0 a : Int} {bs b : List UInt8} {l : RecL} (h : Full at0 bs l a []) (hb : b.length ≤ 524288) : Full at0 (bs ++ frameB b) (l ++ [(a, b)]) (a + ((b.length + 8 : Nat) : Int)) [] := by
  have h1 := h.1.app (x := frameB b)
  rw [List.nil_append] at h1
  have h2 := h1.snoc (unfr_frame hb)
  have hl : (frameB b).length = b.length + 8 := by
    obtain ⟨-, -, -, h4, -⟩ := unfr_out (unfr_frame hb)
    unfold frameB
    simp only [List.length_append, leB_length]
    omega
  rw [List.drop_of_length_le (by omega)] at h2
  exact ⟨h2, unfr_nil⟩
/-- What stands behind the last good frame is cut off. -/
theorem Stp.cut {at0 a : Int} {bs r : List UInt8} {l : RecL} (h : Stp at0 bs l a r) : ∃ y, bs = y ++ r ∧ Stp at0 y l a [] := by
  have key : ∀ {l : RecL} {a : Int} {q : List UInt8}, Stp at0 bs l a q → ∀ z r', q = z ++ r' → ∃ y, bs = y ++ r' ∧ Stp at0 y l a z := by
    intro l a q hq
    induction hq with
    | nil => exact fun z r' e => ⟨z, e, .nil⟩
    | snoc h hu ih =>
      rename_i l a q c n
      intro z r' e
      obtain ⟨-, -, -, h4, -⟩ := unfr_out hu
      obtain ⟨y, hy, hs⟩ := ih (q.take n ++ z) r' (by rw [List.append_assoc, ← e, List.take_append_drop])
      have hl : (q.take n).length = n := by rw [List.length_take]; omega
      have hq : q = (q.take n ++ z) ++ r' := by rw [List.append_assoc, ← e, List.take_append_drop]
      rw [hq] at hu
      have := hs.snoc (unfr_pre hu (by rw [List.length_append]; omega))
      rw [show (List.take n q ++ z).drop n = z by rw [List.drop_append_of_le_length (by omega), List.drop_of_length_le (by omega), List.nil_append]] at this
      exact ⟨y, hy, this⟩
  exact key h [] r rfl
/-- The records from the k-th one on. -/
theorem Stp.from : ∀ {l1 l2 : RecL} {at0 a p : Int} {bs r c : List UInt8}, Stp at0 bs (l1 ++ (p, c) :: l2) a r → at0 ≤ p ∧ Stp p (bs.drop (p - at0).toNat) ((p, c) :: l2) a r
  | [], l2, at0, a, p, bs, r, c, h => by
    rcases h.head with ⟨e, -⟩ | ⟨c', n, l', h1, e, h3⟩
    · cases e
    · cases e
      refine ⟨Int.le_refl _, ?_⟩
      rw [Int.sub_self]
      exact h
  | q :: l1, l2, at0, a, p, bs, r, c, h => by
    rcases h.head with ⟨e, -⟩ | ⟨c', n, l', h1, e, h3⟩
    · cases e
    · cases e
      obtain ⟨g1, g2⟩ := Stp.from h3
      refine ⟨by omega, ?_⟩
      rw [List.drop_drop, show n + (p - (at0 + (n : Int))).toNat = (p - at0).toNat by omega] at g2
      exact g2
end Go.Proofs.Ytcnbamdmngaliaa
end

section

set_option linter.unusedSimpArgs false
set_option linter.unusedVariables false
set_option maxRecDepth 10000
set_option maxHeartbeats 4000000
namespace Go.Proofs.Ytcnbamdmngaliaa.Ex
open Go
theorem IsSl.byteAt {T : TT} {F : Nat → Prop} {h : AH} {v : AV} {xs : List UInt8} {e : TypeId} (hs : IsSl RByte F h v xs) (hA : isAggT T e = some false) (hS : sizeT T e = some 1) {i : Nat} (hi : i < xs.length) :
    loadA T h e (slB v) (slO v + i) = some (.lit (.int .u8 ((xs[i]).toNat : Int))) := by
  obtain ⟨c, hc, h2⟩ := hs.get (T := T) (List.getElem?_eq_getElem hi)
  obtain rfl : c = [.lit (.int .u8 ((xs[i]).toNat : Int))] := hc
  have := h2 e 1 0 hS (by omega) (by show 0 + 1 ≤ 1; omega)
  simp only [RByte, Nat.mul_one, Nat.add_zero] at this
  rw [this]
  simp [ldL, hA, hS]
theorem or_step (xs : List UInt8) {k : Nat} (hk : k < xs.length) (hk8 : k < 8) : orI .u64 (leN (xs.take k) : Nat) (shlI .u64 ((xs[k]).toNat : Int) ((8 * k : Nat) : Int)) = ((leN (xs.take (k + 1)) : Nat) : Int) := by
  have hV : leN (xs.take k) < 256 ^ k := by
    have := leN_lt (xs.take k)
    rw [List.length_take, Nat.min_eq_left (by omega)] at this
    exact this
  have e := or_high (leN (xs.take k)) (xs[k]).toNat k hV (UInt8.toNat_lt _) hk8
  rw [leN_take xs k hk, ← e]
  unfold orI shlI bits
  rw [show min ((8 * k : Nat) : Int).toNat IntKind.u64.bits = 8 * k by
    show min _ 64 = _
    omega]
theorem add_step (xs : List UInt8) {k : Nat} (hk : k < xs.length) (hk4 : k < 4) : IntKind.u32.wrap ((leN (xs.take k) : Nat) + shlI .u32 ((xs[k]).toNat : Int) ((8 * k : Nat) : Int)) = ((leN (xs.take (k + 1)) : Nat) : Int) := by
  have hV : leN (xs.take (k + 1)) < 256 ^ (k + 1) := by
    have := leN_lt (xs.take (k + 1))
    rw [List.length_take, Nat.min_eq_left (by omega)] at this
    exact this
  have h4 : 256 ^ (k + 1) ≤ 256 ^ 4 := Nat.pow_le_pow_right (by decide) (by omega)
  have h44 : (256 : Nat) ^ 4 = 4294967296 := by decide
  rw [leN_take xs k hk] at hV ⊢
  have e : shlI .u32 ((xs[k]).toNat : Int) ((8 * k : Nat) : Int) = (((xs[k]).toNat * 256 ^ k : Nat) : Int) := by
    unfold shlI
    rw [show min ((8 * k : Nat) : Int).toNat IntKind.u32.bits = 8 * k by
      show min _ 32 = _
      omega]
    have hp : (256 : Nat) ^ k = 2 ^ (8 * k) := by rw [Nat.pow_mul]
    rw [show ((xs[k]).toNat : Int) * 2 ^ (8 * k) = (((xs[k]).toNat * 256 ^ k : Nat) : Int) by rw [hp]; push_cast; rfl]
    exact wrap_u32 (by omega) (by omega)
  rw [e]
  exact (wrap_u32 (by omega) (by omega)).trans (by omega)
/-- A codec that reads. -/
def cdC (v : AV) : AB := .cells [.lit (.slice none 0 0), v, .lit (.bool true)] 100
theorem word_x {H : AH} {c : Nat} {v : AV} {xs : List UInt8} {F : Nat → Prop} (hc : H.at c = some (cdC v)) (hv : IsSl RByte F H v xs) (h4 : 4 ≤ xs.length) (hl : xs.length ≤ 1000000000) :
    WC Try.prog (tabOf Try.prog NT0) S0 63 [.ptr c 0, .lit (.int .u64 0), .lit (.int .i64 4)] H fun r h' => r = .lit (.int .u64 ((leN (xs.take 4) : Nat) : Int)) ∧ Mod c (cdC (subSl 1 4 xs.length v)) H h' := by
  refine WC_fn Try.func63 rfl rfl ?_
  have hd' := hc
  unfold cdC at hc
  have L := ld_at (T := tabOf Try.prog NT0) hc
  have l := at_lt hc
  have v1 := hv.isSl
  have v2 := hv.lenD
  have hcap : CapOk 1 v := by obtain ⟨L, -, -, hc, -⟩ := hv.out; exact hc
  have c4 : ((xs.length : Int) < 4) = False := by simp only [eq_iff_iff, iff_false]; omega
  have c4' : ((4 : Int) ≤ (xs.length : Int)) = True := by simp only [eq_iff_iff, iff_true]; omega
  simp only [core, zrA, zrS, zrM, zrL, zrE, reduceCtorEq, zrD, ziE, ziL, ziN, Try.ntmps63, L, l, v1, v2, c4]
  refine WB_for 4 (fun i t h => h = H ∧ t.n = 71 ∧ t.get 0 = .ptr c 0 ∧ t.get 1 = .lit (.int .u64 ((leN (xs.take i) : Nat) : Int)) ∧ t.get 2 = .lit (.int .i64 4) ∧ t.get 43 = .lit (.int .i64 4) ∧ t.get 44 = .lit (.int .i64 i)) ?_ ?_ _ _ ?_
  · rintro i t h hlt hc2 ⟨rfl, hn, g0, g1, g2, g43, g44⟩ ih
    have hi : i < xs.length := by omega
    have hc3 : ((i : Int) < 4) = True := by simp only [eq_iff_iff, iff_true]; omega
    have hld := hv.byteAt (T := tabOf Try.prog NT0) (e := 5) (by kernel_rfl) (by kernel_rfl) hi
    have hw := wrap_succ hlt (by omega)
    have hw8 : IntKind.i64.wrap (8 * (i : Int)) = ((8 * i : Nat) : Int) := (wrap_in (by omega) (by omega)).trans (by omega)
    have h80 : ((0 : Int) ≤ ((8 * i : Nat) : Int)) = True := by simp only [eq_iff_iff, iff_true]; omega
    have hB := UInt8.toNat_lt (xs[i])
    have hcv : IntKind.u64.wrap ((xs[i]).toNat : Int) = ((xs[i]).toNat : Int) := by
      have : IntKind.u64.wrap ((xs[i]).toNat : Int) = ((xs[i]).toNat : Int) % 18446744073709551616 := by simp [IntKind.wrap, IntKind.bits, IntKind.signed]
      rw [this]; omega
    have hst := or_step xs hi (by omega)
    simp only [core, zrA, zrS, zrM, zrL, zrE, reduceCtorEq, zrD, ziE, ziL, ziN, hn, g0, g1, g2, g43, g44, L, l, v1, v2, hi, hc3, hld, hw, hw8, h80, hcv, hst]
    refine ih _ _ ⟨rfl, ?_⟩
    simp only [core, zrA, zrS, zrM, zrL, zrE, reduceCtorEq, zrD, ziE, ziL, ziN, hn, g0, g1, g2, g43, g44]
  · rintro t h hc2 ⟨rfl, hn, g0, g1, g2, g43, g44⟩
    have hc2 : ((4 : Int) < 4) = False := by decide
    have hc3 : (((4 : Nat) : Int) < 4) = False := by decide
    have w1 := subSl_isSl (z := 1) (l := 4) (r := xs.length) v1
    have w2 : (subSl 1 4 xs.length v).one = true := (SlN.of w1).elim fun _ h => h.one
    simp only [core, zrA, zrS, zrM, zrL, zrE, reduceCtorEq, zrD, ziE, ziL, ziN, hn, g0, g1, g2, g43, g44, hc2, hc3, L, l, v1, v2, hcap, c4', hc, w1, w2, Int.le_refl]
    exact .put _ hd'
  · simp only [core, zrA, zrS, zrM, zrL, zrE, reduceCtorEq, zrD, ziE, ziL, ziN]
    simp [leN]
/-- The document's reader. -/
def rdC (v : AV) : AB := .cells [v, .lit (.bool false)] 107
theorem take_x {H : AH} {c : Nat} {v : AV} {xs : List UInt8} {F : Nat → Prop} (hc : H.at c = some (rdC v)) (hv : IsSl RByte F H v xs) (h4 : 4 ≤ xs.length) (hl : xs.length ≤ 1000000000) :
    WC Try.prog (tabOf Try.prog NT0) S0 71 [.ptr c 0, .lit (.int .i64 4)] H fun r h' => r = subSl 1 0 4 v ∧ Mod c (rdC (subSl 1 4 xs.length v)) H h' := by
  refine WC_fn Try.func71 rfl rfl ?_
  have hd' := hc
  unfold rdC at hc
  have L := ld_at (T := tabOf Try.prog NT0) hc
  have l := at_lt hc
  have v1 := hv.isSl
  have v2 := hv.lenD
  have hcap : CapOk 1 v := by obtain ⟨L, -, -, hc, -⟩ := hv.out; exact hc
  have c4 : ((xs.length : Int) < 4) = False := by simp only [eq_iff_iff, iff_false]; omega
  have c4' : ((4 : Int) ≤ (xs.length : Int)) = True := by simp only [eq_iff_iff, iff_true]; omega
  have w1 := subSl_isSl (z := 1) (l := 4) (r := xs.length) v1
  have w2 : (subSl 1 4 xs.length v).one = true := (SlN.of w1).elim fun _ h => h.one
  simp only [core, zrA, zrS, zrM, zrL, zrE, reduceCtorEq, zrD, ziE, ziL, ziN, Try.ntmps71, L, l, v1, v2, c4, c4', hcap, hc, w1, w2, Int.le_refl]
  exact .put _ hd'
theorem wordE_x {H : AH} {c : Nat} {v : AV} {xs : List UInt8} {F : Nat → Prop} (hc : H.at c = some (rdC v)) (hv : IsSl RByte F H v xs) (hF : ¬ F c) (h4 : 4 ≤ xs.length) (hl : xs.length ≤ 1000000000) :
    WC Try.prog (tabOf Try.prog NT0) S0 67 [.ptr c 0] H fun r h' => r = .lit (.int .u32 ((leN (xs.take 4) : Nat) : Int)) ∧ Mod c (rdC (subSl 1 4 xs.length v)) H h' := by
  refine WC_fn Try.func67 rfl rfl ?_
  simp only [core, zrA, zrS, zrM, zrL, zrE, reduceCtorEq, zrD, ziE, ziL, ziN, Try.ntmps67]
  refine (take_x hc hv h4 hl).mono ?_
  rintro _ h1 ⟨rfl, m⟩
  have hs : IsSl RByte F h1 (subSl 1 0 4 v) (xs.take 4) := by
    have := (hv.sub (l := 0) (r := 4) (by omega) h4).lift (G := F) (h' := h1) fun b hb hlt => ⟨m.ne b (fun e => hF (e ▸ hb)), hb⟩
    rw [List.drop_zero] at this
    exact this
  have hl4 : (xs.take 4).length = 4 := by rw [List.length_take]; omega
  obtain ⟨ys, hy⟩ : ∃ ys, ys = xs.take 4 := ⟨_, rfl⟩
  obtain ⟨u, hu⟩ : ∃ u, u = subSl 1 0 4 v := ⟨_, rfl⟩
  rw [← hy, ← hu] at hs
  rw [← hy] at hl4
  rw [← hy, ← hu]
  have v1 := hs.isSl
  have v2 := hs.lenD
  rw [hl4] at v2
  simp only [core, zrA, zrS, zrM, zrL, zrE, reduceCtorEq, zrD, ziE, ziL, ziN]
  refine WB_for 4 (fun i t h => h = h1 ∧ t.n = 23 ∧ t.get 3 = u ∧ t.get 4 = .lit (.int .u32 ((leN (ys.take i) : Nat) : Int)) ∧ t.get 8 = .lit (.int .i64 i)) ?_ ?_ _ _ ?_
  · rintro i t h hlt hc2 ⟨rfl, hn, g3, g4, g8⟩ ih
    have hi : i < ys.length := by omega
    have hc3 : ((i : Int) < 4) = True := by simp only [eq_iff_iff, iff_true]; omega
    have hld := hs.byteAt (T := tabOf Try.prog NT0) (e := 5) (by kernel_rfl) (by kernel_rfl) hi
    have hw := wrap_succ hlt (by omega)
    have hw8 : IntKind.i64.wrap (8 * (i : Int)) = ((8 * i : Nat) : Int) := (wrap_in (by omega) (by omega)).trans (by omega)
    have h80 : ((0 : Int) ≤ ((8 * i : Nat) : Int)) = True := by simp only [eq_iff_iff, iff_true]; omega
    have hB := UInt8.toNat_lt (ys[i])
    have hcv : IntKind.u32.wrap ((ys[i]).toNat : Int) = ((ys[i]).toNat : Int) := wrap_u32 (by omega) (by omega)
    have hst := add_step ys hi hlt
    simp only [core, zrA, zrS, zrM, zrL, zrE, reduceCtorEq, zrD, ziE, ziL, ziN, hn, g3, g4, g8, v1, v2, hlt, hi, hc3, hld, hw, hw8, h80, hcv, hst]
    refine ih _ _ ⟨rfl, ?_⟩
    simp only [core, zrA, zrS, zrM, zrL, zrE, reduceCtorEq, zrD, ziE, ziL, ziN, hn, g3, g4, g8]
  · rintro t h hc2 ⟨rfl, hn, g3, g4, g8⟩
    have hc2 : ((4 : Int) < 4) = False := by decide
    have hc3 : (((4 : Nat) : Int) < 4) = False := by decide
    have e4 : ys.take 4 = ys := List.take_of_length_le (by omega)
    simp only [core, zrA, zrS, zrM, zrL, zrE, reduceCtorEq, zrD, ziE, ziL, ziN, hn, g3, g4, g8, hc2, hc3, e4]
    exact m
  · simp only [core, zrA, zrS, zrM, zrL, zrE, reduceCtorEq, zrD, ziE, ziL, ziN]
    simp [leN]
end Go.Proofs.Ytcnbamdmngaliaa.Ex
end

section

set_option linter.unusedSimpArgs false
set_option linter.unusedVariables false
set_option maxRecDepth 10000
set_option maxHeartbeats 4000000
namespace Go.Proofs.Ytcnbamdmngaliaa.Ex
open Go
theorem leB4 (n : Nat) : leB 4 n = [UInt8.ofNat (n % 256), UInt8.ofNat (n / 256 % 256), UInt8.ofNat (n / 256 / 256 % 256), UInt8.ofNat (n / 256 / 256 / 256 % 256)] := rfl
theorem u8wrap (m : Nat) : IntKind.u8.wrap (m : Int) = ((UInt8.ofNat (m % 256)).toNat : Int) := by
  rw [IntKind.wrap_u8, UInt8.toNat_ofNat']
  omega
theorem shr_nat (n s : Nat) (hs : s ≤ 32) : shrI .u32 (n : Int) (s : Int) = ((n / 2 ^ s : Nat) : Int) := by
  unfold shrI
  rw [show min ((s : Nat) : Int).toNat IntKind.u32.bits = s by
    show min _ 32 = _
    omega]
  rw [show (2 : Int) ^ s = ((2 ^ s : Nat) : Int) by push_cast; rfl, Int.fdiv_eq_ediv_of_nonneg _ (Int.natCast_nonneg _)]
  rfl
theorem number_x {H : AH} {n : Nat} : WC Try.prog (tabOf Try.prog NT0) S0 59 [.lit (.int .u32 (n : Int))] H fun r h' => r = .sl H.n 0 4 (.kn 4) ∧ h' = H.push (.cells (bL (leB 4 n)) 5) := by
  refine WC_fn Try.func59 rfl rfl ?_
  have s8 := shr_nat n 8 (by omega)
  have s16 := shr_nat n 16 (by omega)
  have s24 := shr_nat n 24 (by omega)
  rw [show ((8 : Nat) : Int) = 8 from rfl] at s8
  rw [show ((16 : Nat) : Int) = 16 from rfl] at s16
  rw [show ((24 : Nat) : Int) = 24 from rfl] at s24
  have e0 := u8wrap n
  have e1 := u8wrap (n / 2 ^ 8)
  have e2 := u8wrap (n / 2 ^ 16)
  have e3 := u8wrap (n / 2 ^ 24)
  simp only [core, zrA, zrS, zrM, zrL, zrE, reduceCtorEq, zrD, ziE, ziL, ziN, Try.ntmps59, s8, s16, s24, e0, e1, e2, e3]
  congr 2
  rw [leB4]
  show _ = [AV.lit (Value.int .u8 _), AV.lit (Value.int .u8 _), AV.lit (Value.int .u8 _), AV.lit (Value.int .u8 _)]
  rw [show n / 2 ^ 8 = n / 256 from rfl, show n / 2 ^ 16 = n / 256 / 256 by rw [Nat.div_div_eq_div_mul], show n / 2 ^ 24 = n / 256 / 256 / 256 by rw [Nat.div_div_eq_div_mul, Nat.div_div_eq_div_mul]]
theorem encN4 (n : Nat) : encN .u32 (n : Int) 4 = leB 4 n := by
  have key : ∀ i, i ≤ 4 → byteN .u32 (n : Int) i = UInt8.ofNat (n / 2 ^ (8 * i) % 256) := fun i hi => by
    unfold byteN
    rw [shr_nat n (8 * i) (by omega), u8wrap, Int.toNat_natCast]
    exact UInt8.ofNat_toNat
  show [byteN .u32 (n : Int) 0, byteN .u32 (n : Int) 1, byteN .u32 (n : Int) 2, byteN .u32 (n : Int) 3] = _
  rw [leB4, key 0 (by omega), key 1 (by omega), key 2 (by omega), key 3 (by omega)]
  rw [show n / 2 ^ (8 * 0) = n by simp, show n / 2 ^ (8 * 1) = n / 256 from rfl, show n / 2 ^ (8 * 2) = n / 256 / 256 by rw [Nat.div_div_eq_div_mul], show n / 2 ^ (8 * 3) = n / 256 / 256 / 256 by rw [Nat.div_div_eq_div_mul, Nat.div_div_eq_div_mul]]
theorem engZ : (match zeroT (tabOf Try.prog NT0) 125 with | some (.agg l) => freshE l && l.all AV.one | _ => false) = true := by kernel_rfl
theorem newEng_x {H : AH} : WC Try.prog (tabOf Try.prog NT0) S0 60 [] H fun r h' => ∃ l, freshE l = true ∧ r = .ptr H.n 0 ∧ h' = H.push (.cells l 125) := by
  refine WC_fn Try.func60 rfl rfl ?_
  obtain ⟨l, hz, hf, ho⟩ : ∃ l, zeroT (tabOf Try.prog NT0) 125 = some (.agg l) ∧ freshE l = true ∧ l.all AV.one = true := by
    have e := engZ
    split at e
    · rename_i l hl; rw [Bool.and_eq_true] at e; exact ⟨l, hl, e⟩
    · cases e
  simp only [core, zrA, zrS, zrM, zrL, zrE, reduceCtorEq, zrD, ziE, ziL, ziN, Try.ntmps60, hz, ho]
  exact ⟨l, hf, rfl⟩
theorem OwnB.app {n0 : Nat} {H : AH} {v x : AV} {xs ys : List UInt8} {F : Nat → Prop} (ho : OwnB n0 H v xs) (hx : IsSl RByte F H x ys) (hl : xs.length + ys.length ≤ 140737488355328) (hn0 : n0 ≤ H.n) :
    ∃ s' h', appendA (tabOf Try.prog NT0) H 22 22 v x = some (s', h') ∧ OwnB n0 h' s' (xs ++ ys) ∧ Ext n0 H h' := by
  obtain ⟨L, h1, h2, hc, h3⟩ := hx.out
  have hM : Els RByte (fun b => False ∧ Apart v b) H L ys := ⟨h3.1, fun i c x h1 h2 => h3.2 i c x h1 h2⟩
  obtain ⟨s', h', a1, a2, a3, a4⟩ := OwnL.append ho (T := tabOf Try.prog NT0) (t := 22) (tx := 22) (by kernel_rfl) (by kernel_rfl) (by kernel_rfl) (zv := .lit (.int .u8 0)) (by kernel_rfl) (by' := 1) (by kernel_rfl) rfl (by decide) (by decide) h1.src h1.len hM (by omega) (by omega) hn0
  exact ⟨s', h', a1, a2, a3⟩
/-- append([]byte{}, x...). -/
theorem fresh_bytes {F : Nat → Prop} {H : AH} {v : AV} {xs : List UInt8} {p : Nat} (hp : H.at p = some (.cells [] 5)) (hx : IsSl RByte F H v xs) (hl : xs.length ≤ 1000000000) :
    ∃ s' h', appendA (tabOf Try.prog NT0) H 22 22 (.sl p 0 0 (.kn 0)) v = some (s', h') ∧ Ext H.n H h' ∧ IsSl RByte (fun b => b = p ∨ H.n ≤ b) h' s' xs ∧ isNil s' = false := by
  obtain ⟨s', h', e0, e1, e2, e3, e4⟩ := fresh_append (T := tabOf Try.prog NT0) (t := 22) (by kernel_rfl) (by kernel_rfl) (zv := .lit (.int .u8 0)) (by kernel_rfl) (by' := 1) (by kernel_rfl) rfl (by decide) (by decide) hx (by omega) (by omega) hp
  exact ⟨s', h', e0, e1, e2.bytesF e3, e4⟩
theorem frame_x {H : AH} {v : AV} {bs : List UInt8} {F : Nat → Prop} (hv : IsSl RByte F H v bs) (hl : bs.length ≤ 524288) :
    WC Try.prog (tabOf Try.prog NT0) S0 48 [v] H fun r h' => Ext H.n H h' ∧ VwB H.n h' r (frameB bs) := by
  refine WC_fn Try.func48 rfl rfl ?_
  have v1 := hv.isSl
  have v2 := hv.lenD
  have c1 : ((524288 : Int) < (bs.length : Int)) = False := by simp only [eq_iff_iff, iff_false]; omega
  have hcv : IntKind.u32.wrap (bs.length : Int) = (bs.length : Int) := wrap_u32 (by omega) (by omega)
  simp only [core, zrA, zrS, zrM, zrL, zrE, reduceCtorEq, zrD, ziE, ziL, ziN, Try.ntmps48, v1, v2, c1, hcv]
  refine number_x.mono ?_
  rintro _ h1 ⟨rfl, hh1⟩
  have E1 : Ext H.n H h1 := hh1 ▸ (Ext.refl _ _).push _ (Nat.le_refl _)
  have A1 : h1.at H.n = some (.cells (bL (leB 4 bs.length)) 5) := hh1 ▸ at_push_n _ _
  have hn1 : h1.n = H.n + 1 := hh1 ▸ n_push _ _
  clear hh1
  simp only [core, zrA, zrS, zrM, zrL, zrE, reduceCtorEq, zrD, ziE, ziL, ziN]
  refine newEng_x.mono ?_
  rintro _ h2 ⟨l, hf, rfl, hh2⟩
  have E2 : Ext H.n H h2 := hh2 ▸ E1.push _ (by omega)
  have A2 : h2.at h1.n = some (.cells l 125) := hh2 ▸ at_push_n _ _
  have A1 : h2.at H.n = some (.cells (bL (leB 4 bs.length)) 5) := by rw [hh2, at_push_lt _ (by omega)]; exact A1
  have hn2 : h2.n = H.n + 2 := by rw [hh2, n_push, hn1]
  clear hh2
  simp only [core, zrA, zrS, zrM, zrL, zrE, reduceCtorEq, zrD, ziE, ziL, ziN]
  have hv2 := hv.ext E2 (Nat.le_refl _)
  have hap : apartOf h1.n v = true := by
    rcases hv.bytesRow with ⟨rfl, -⟩ | ⟨b, off, cap, row, rfl, -, h4, -, -⟩
    · rfl
    · have := getR_lt h4
      show (!Nat.beq h1.n b) = true
      rw [show Nat.beq h1.n b = false by rw [← Bool.not_eq_true, Nat.beq_eq]; omega]
      rfl
  refine crcP_c hv2.bytesOf A2 hf hap (by omega) ?_
  obtain ⟨h3, hh3⟩ : ∃ h3, h3 = h2.put h1.n .gone := ⟨_, rfl⟩
  have E3 : Ext H.n H h3 := hh3 ▸ E2.put _ (by omega)
  have A1 : h3.at H.n = some (.cells (bL (leB 4 bs.length)) 5) := by rw [hh3, at_put_ne _ (by omega)]; exact A1
  have hn3 : h3.n = H.n + 2 := by rw [hh3, n_put, hn2]
  rw [← hh3]
  clear hh3
  simp only [core, zrA, zrS, zrM, zrL, zrE, reduceCtorEq, zrD, ziE, ziL, ziN]
  refine number_x.mono ?_
  rintro _ h4 ⟨rfl, hh4⟩
  have E4 : Ext H.n H h4 := hh4 ▸ E3.push _ (by omega)
  have A4 : h4.at h3.n = some (.cells (bL (leB 4 (crcN bs))) 5) := hh4 ▸ at_push_n _ _
  have A1 : h4.at H.n = some (.cells (bL (leB 4 bs.length)) 5) := by rw [hh4, at_push_lt _ (by omega)]; exact A1
  have hn4 : h4.n = H.n + 3 := by rw [hh4, n_push, hn3]
  clear hh4
  simp only [core, zrA, zrS, zrM, zrL, zrE, reduceCtorEq, zrD, ziE, ziL, ziN]
  have l1 := leB_length 4 bs.length
  have l2 := leB_length 4 (crcN bs)
  have V1 : VwB H.n h4 (.sl H.n 0 4 (.kn 4)) (leB 4 bs.length) := .inr ⟨H.n, leB 4 bs.length, .kn 4, by rw [l1], Nat.le_refl _, A1, by rw [List.take_length], .inr (by rw [l1])⟩
  have X1 : IsSl RByte (fun _ => True) h4 (.sl h3.n 0 4 (.kn 4)) (leB 4 (crcN bs)) := by
    have := IsSl.mkBytes (F := fun _ => True) (h := h4) (xs := leB 4 (crcN bs)) (b := h3.n) (off := 0) (cap := .kn 4) (row := bL (leB 4 (crcN bs))) trivial (by unfold getR; rw [A4]) (by unfold cut; rw [if_pos (by rw [len_bL]; omega), List.drop_zero, take_bL, List.take_length]) (fun b off n cap e => by cases e; show _ ≤ _; omega)
    rw [l2] at this
    exact this
  refine WOp_app (V1.app X1 (by omega) (by omega)) ?_
  rintro s5 h5 ⟨V5, -, E5⟩
  have E5' := E4.trans E5
  simp only [core, zrA, zrS, zrM, zrL, zrE, reduceCtorEq, zrD, ziE, ziL, ziN]
  have hv5 := hv.ext E5' (Nat.le_refl _)
  refine WOp_app (V5.app hv5 (by rw [List.length_append]; omega) E5'.1) ?_
  rintro s6 h6 ⟨V6, -, E6⟩
  simp only [core, zrA, zrS, zrM, zrL, zrE, reduceCtorEq, zrD, ziE, ziL, ziN]
  exact ⟨E5'.trans E6, V6⟩
end Go.Proofs.Ytcnbamdmngaliaa.Ex
end

section

set_option linter.unusedSimpArgs false
set_option linter.unusedVariables false
set_option maxRecDepth 10000
set_option maxHeartbeats 4000000
namespace Go.Proofs.Ytcnbamdmngaliaa.Ex
open Go
theorem and_tt {a b : Prop} [Decidable a] [Decidable b] (ha : a) (hb : b) : (decide a && decide b) = true := by simp [ha, hb]
theorem readD_x {H : AH} {d : Nat} {size base synced limit at_ n : Int} {v : AV} {xs : List UInt8} {F : Nat → Prop} (hd : H.at d = some (dkC size base v synced limit)) (h0 : 0 < size) (hb : 0 ≤ base ∧ base ≤ 4611686018427387904)
    (hv : IsSl RByte F H v xs) (hl : xs.length ≤ 67108864) (ha : base ≤ at_ ∧ at_ ≤ base + xs.length) (hn : 0 ≤ n ∧ n ≤ base + xs.length - at_) :
    WC Try.prog (tabOf Try.prog NT0) S0 49 [.ptr d 0, .lit (.int .i64 at_), .lit (.int .i64 n)] H fun r h' => Ext H.n H h' ∧ ∃ v', r = .tup [v', .lit (.int .i64 0)] ∧ OwnB H.n h' v' ((xs.drop (at_ - base).toNat).take n.toNat) := by
  refine WC_fn Try.func49 rfl rfl ?_
  have hd' := hd
  unfold dkC at hd
  have L := ld_at (T := tabOf Try.prog NT0) hd
  have l := at_lt hd
  have v1 := hv.isSl
  have v2 := hv.lenD
  have hcap : CapOk 1 v := by obtain ⟨L, -, -, hc, -⟩ := hv.out; exact hc
  have hw1 : IntKind.i64.wrap (base + (xs.length : Int) - at_) = base + xs.length - at_ := wrap_in (by omega) (by omega)
  have hw2 : IntKind.i64.wrap (at_ - base) = at_ - base := wrap_in (by omega) (by omega)
  have hw3 : IntKind.i64.wrap (at_ - base + n) = at_ - base + n := wrap_in (by omega) (by omega)
  have c1 : (n < 0) = False := by simp only [eq_iff_iff, iff_false]; omega
  have c2 : (base + (xs.length : Int) - at_ < n) = False := by simp only [eq_iff_iff, iff_false]; omega
  have c3 : (0 ≤ at_ - base) = True := by simp only [eq_iff_iff, iff_true]; omega
  have c4 : (at_ - base ≤ at_ - base + n) = True := by simp only [eq_iff_iff, iff_true]; omega
  have c5 : (at_ - base + n ≤ (xs.length : Int)) = True := by simp only [eq_iff_iff, iff_true]; omega
  have k1 := and_tt ha.1 ha.2
  simp only [core, zrA, zrS, zrM, zrL, zrE, reduceCtorEq, zrD, ziE, ziL, ziN, Try.ntmps49]
  refine (made_x hd' h0).mono ?_
  rintro _ h1 ⟨e1, rfl⟩
  replace e1 := e1.symm
  subst e1
  simp only [core, zrA, zrS, zrM, zrL, zrE, reduceCtorEq, zrD, ziE, ziL, ziN]
  refine (end_x hd' h0 v1 v2 hb (by omega)).mono ?_
  rintro _ h1 ⟨e1, rfl⟩
  replace e1 := e1.symm
  subst e1
  simp only [core, zrA, zrS, zrM, zrL, zrE, reduceCtorEq, zrD, ziE, ziL, ziN]
  refine (in_x hd').mono ?_
  rintro _ h1 ⟨e1, rfl⟩
  replace e1 := e1.symm
  subst e1
  simp only [core, zrA, zrS, zrM, zrL, zrE, reduceCtorEq, zrD, ziE, ziL, ziN, k1, c1]
  refine (end_x hd' h0 v1 v2 hb (by omega)).mono ?_
  rintro _ h1 ⟨e1, rfl⟩
  replace e1 := e1.symm
  subst e1
  simp only [core, zrA, zrS, zrM, zrL, zrE, reduceCtorEq, zrD, ziE, ziL, ziN, hw1, c2]
  rw [WB_regionD [0, 1, 2, 3, 4, 5, 6, 7, 8, 9, 10, 11, 12, 13, 14, 15, 16, 17, 18, 19, 20, 21] 24973979471131209393954760631714995610596617543623963145104261536225773856316617057284252548212083401518603845470763214242044620158451168095240192 (by kernel_rfl)]
  repeat ((with_reducible refine WDM_cons ?_; simp only [dw1]; try simp only [dw2, zrA, zrM, zrR, zrO, zrE]); simp only [core, zrA, zrS, zrM, zrL, zrE, reduceCtorEq, zrD, ziE, ziL, ziN, cored, L, l, v1, v2, hw2, hw3, c3, c4, c5, hcap])
  have hs := hv.sub (l := (at_ - base).toNat) (r := (at_ - base + n).toNat) (by omega) (by omega)
  have e1 : ((xs.take (at_ - base + n).toNat).drop (at_ - base).toNat) = (xs.drop (at_ - base).toNat).take n.toNat := by
    rw [List.take_drop, show (at_ - base).toNat + n.toNat = (at_ - base + n).toNat by omega]
  rw [e1] at hs
  have hlen : ((xs.drop (at_ - base).toNat).take n.toNat).length ≤ 67108864 := by rw [List.length_take, List.length_drop]; omega
  refine WOpD_app (OwnB.app (n0 := H.n) .nil hs (by simp only [List.length_nil]; omega) (Nat.le_refl _)) ?_
  rintro s' h' ⟨o, E⟩
  have hd2 := E.at l hd
  have L2 := ld_at (T := tabOf Try.prog NT0) hd2
  have l2 := at_lt hd2
  repeat ((with_reducible refine WDM_cons ?_; simp only [dw1]; try simp only [dw2, zrA, zrM, zrR, zrO, zrE]); simp only [core, zrA, zrS, zrM, zrL, zrE, reduceCtorEq, zrD, ziE, ziL, ziN, cored, L2, l2, v1, same_sl, same_int])
  exact ⟨E, _, rfl, o⟩
/-- What changes of a heap: the blocks of l, and no others. -/
structure Cg (l : List Nat) (H h' : AH) : Prop where
  n : H.n ≤ h'.n
  k : ∀ b, b < H.n → b ∉ l → h'.at b = H.at b
theorem Cg.refl {l : List Nat} {H : AH} : Cg l H H := ⟨Nat.le_refl _, fun _ _ _ => rfl⟩
theorem Cg.trans {l : List Nat} {H h1 h2 : AH} (a : Cg l H h1) (b : Cg l h1 h2) : Cg l H h2 := ⟨Nat.le_trans a.n b.n, fun k hk hl => (b.k k (Nat.lt_of_lt_of_le hk a.n) hl).trans (a.k k hk hl)⟩
theorem Cg.ext {l : List Nat} {H h : AH} (e : Ext H.n H h) : Cg l H h := ⟨e.1, fun b hb _ => e.2 b hb⟩
theorem Cg.put {l : List Nat} {H : AH} {d : Nat} (x : AB) (hd : d ∈ l) : Cg l H (H.put d x) := ⟨by rw [n_put]; exact Nat.le_refl _, fun b hb hl => at_put_ne _ (fun e => hl (e ▸ hd))⟩
theorem Mod.cg {l : List Nat} {d : Nat} {x : AB} {H h : AH} (m : Mod d x H h) (hd : d ∈ l) : Cg l H h := ⟨by rw [m.n]; exact Nat.le_refl _, fun b hb hl => m.ne b (fun e => hl (e ▸ hd))⟩
theorem VwB.putLt {n0 p : Nat} {h : AH} {v : AV} {xs : List UInt8} (ho : VwB n0 h v xs) (hp : p < n0) (x : AB) : VwB n0 (h.put p x) v xs := ho.lift fun b off n cap e => at_put_ne _ (by have := ho.lt _ _ _ _ e; omega)
theorem trimD_x {H : AH} {d : Nat} {size base synced limit at_ : Int} {v : AV} {xs : List UInt8} {F : Nat → Prop} (hd : H.at d = some (dkC size base v synced limit)) (h0 : 0 < size) (hb : 0 ≤ base ∧ base ≤ 4611686018427387904)
    (hv : IsSl RByte F H v xs) (hl : xs.length ≤ 67108864) (hs : base ≤ synced ∧ synced ≤ base + xs.length) :
    WC Try.prog (tabOf Try.prog NT0) S0 56 [.ptr d 0, .lit (.int .i64 at_)] H fun r h' => if base ≤ at_ ∧ at_ ≤ synced then r = .lit (.int .i64 0) ∧ if 0 ≤ limit ∧ limit < base + xs.length then h' = H else
      Cg [d] H h' ∧ ∃ v', h'.at d = some (dkC size at_ v' synced limit) ∧ VwB H.n h' v' (xs.drop (at_ - base).toNat) else h' = H ∧ r = .lit (.int .i64 22) := by
  refine WC_fn Try.func56 rfl rfl ?_
  have hd' := hd
  unfold dkC at hd
  have L := ld_at (T := tabOf Try.prog NT0) hd
  have l := at_lt hd
  have v1 := hv.isSl
  have v2 := hv.lenD
  have hcap : CapOk 1 v := by obtain ⟨L, -, -, hc, -⟩ := hv.out; exact hc
  simp only [core, zrA, zrS, zrM, zrL, zrE, reduceCtorEq, zrD, ziE, ziL, ziN, Try.ntmps56]
  refine (made_x hd' h0).mono ?_
  rintro _ h1 ⟨e1, rfl⟩
  replace e1 := e1.symm
  subst e1
  simp only [core, zrA, zrS, zrM, zrL, zrE, reduceCtorEq, zrD, ziE, ziL, ziN]
  refine (synced_x hd' h0).mono ?_
  rintro _ h1 ⟨e1, rfl⟩
  replace e1 := e1.symm
  subst e1
  simp only [core, zrA, zrS, zrM, zrL, zrE, reduceCtorEq, zrD, ziE, ziL, ziN]
  refine (in_x hd').mono ?_
  rintro _ h1 ⟨e1, rfl⟩
  replace e1 := e1.symm
  subst e1
  by_cases ha : base ≤ at_ ∧ at_ ≤ synced
  case neg =>
    have k1 : (decide (base ≤ at_) && decide (at_ ≤ synced)) = false := by
      rw [Bool.and_eq_false_iff, decide_eq_false_iff_not, decide_eq_false_iff_not]
      omega
    simp only [if_neg ha]
    simp only [core, zrA, zrS, zrM, zrL, zrE, reduceCtorEq, zrD, ziE, ziL, ziN, k1]
    try exact ⟨trivial, trivial⟩
  have k1 := and_tt ha.1 ha.2
  simp only [if_pos ha]
  simp only [core, zrA, zrS, zrM, zrL, zrE, reduceCtorEq, zrD, ziE, ziL, ziN, k1]
  refine (frozen_x hd' h0 v1 v2 hb (by omega)).mono ?_
  rintro _ h1 ⟨e1, rfl⟩
  replace e1 := e1.symm
  subst e1
  by_cases c1 : 0 ≤ limit ∧ limit < base + xs.length
  · have k2 := and_tt c1.1 c1.2
    simp only [if_pos c1]
    simp only [core, zrA, zrS, zrM, zrL, zrE, reduceCtorEq, zrD, ziE, ziL, ziN, k2]
  · have k2 : (decide (0 ≤ limit) && decide (limit < base + (xs.length : Int))) = false := by
      rw [Bool.and_eq_false_iff, decide_eq_false_iff_not, decide_eq_false_iff_not]
      omega
    simp only [if_neg c1]
    simp only [core, zrA, zrS, zrM, zrL, zrE, reduceCtorEq, zrD, ziE, ziL, ziN, k2]
    have hw2 : IntKind.i64.wrap (at_ - base) = at_ - base := wrap_in (by omega) (by omega)
    have c3 : (0 ≤ at_ - base) = True := by simp only [eq_iff_iff, iff_true]; omega
    have c5 : (at_ - base ≤ (xs.length : Int)) = True := by simp only [eq_iff_iff, iff_true]; omega
    rw [WB_regionD [0, 1, 2, 3, 4, 5, 6, 7, 8, 9, 10, 11, 12, 13, 14, 15] 57894719459769174912292638899553107507233961114163924832252536033575335624704 (by kernel_rfl)]
    repeat ((with_reducible refine WDM_cons ?_; simp only [dw1]; try simp only [dw2, zrA, zrM, zrR, zrO, zrE]); simp only [core, zrA, zrS, zrM, zrL, zrE, reduceCtorEq, zrD, ziE, ziL, ziN, cored, L, l, v1, v2, hw2, c3, c5, hcap, Int.le_refl, Int.toNat_natCast])
    have hs := hv.sub (l := (at_ - base).toNat) (r := xs.length) (by omega) (Nat.le_refl _)
    rw [List.take_length] at hs
    have hlen : (xs.drop (at_ - base).toNat).length ≤ 67108864 := by rw [List.length_drop]; omega
    refine WOpD_app (OwnB.app (n0 := H.n) .nil hs (by simp only [List.length_nil]; omega) (Nat.le_refl _)) ?_
    rintro s' h' ⟨o, E⟩
    rw [List.nil_append] at o
    have hd2 := E.at l hd
    have L2 := ld_at (T := tabOf Try.prog NT0) hd2
    have l2 := at_lt hd2
    have z1 := o.isSl
    have z2 := o.one
    repeat ((with_reducible refine WDM_cons ?_; simp only [dw1]; try simp only [dw2, zrA, zrM, zrR, zrO, zrE]); simp only [core, zrA, zrS, zrM, zrL, zrE, reduceCtorEq, zrD, ziE, ziL, ziN, cored, L2, l2, hd2, v1, z1, z2, same_sl, same_int])
    have hdn := at_lt hd
    exact ⟨((Cg.ext E).trans (.put _ (by simp))).trans (.put _ (by simp)), s', rfl, ((VwB.ofOwn o).putLt hdn _).putLt hdn _⟩
theorem Mod.trans {d : Nat} {x y : AB} {H h h2 : AH} (a : Mod d x H h) (b : Mod d y h h2) : Mod d y H h2 := ⟨b.n.trans a.n, b.at_, fun k hk => (b.ne k hk).trans (a.ne k hk)⟩
theorem sl3_isSl {k : Nat} {v : AV} (hv : isSl v = true) : isSl (sl3 k v) = true := by
  obtain ⟨n, ⟨rfl, _⟩ | ⟨b, off, cap, rfl⟩⟩ := SlN.of hv <;> rfl
theorem cutD_x {H : AH} {d : Nat} {size base synced limit at_ : Int} {v : AV} {xs : List UInt8} {F : Nat → Prop} (hd : H.at d = some (dkC size base v synced limit)) (h0 : 0 < size) (hb : 0 ≤ base ∧ base ≤ 4611686018427387904)
    (hv : IsSl RByte F H v xs) (hl : xs.length ≤ 67108864) (ha : base ≤ at_ ∧ at_ ≤ base + xs.length) (hm : limit < 0) :
    WC Try.prog (tabOf Try.prog NT0) S0 51 [.ptr d 0, .lit (.int .i64 at_)] H fun r h' => r = .lit (.int .i64 0) ∧ Mod d (dkC size base (sl3 (at_ - base).toNat v) (if at_ < synced then at_ else synced) limit) H h' := by
  refine WC_fn Try.func51 rfl rfl ?_
  have hd' := hd
  unfold dkC at hd
  have L := ld_at (T := tabOf Try.prog NT0) hd
  have l := at_lt hd
  have v1 := hv.isSl
  have v2 := hv.lenD
  have hcap : CapOk 1 v := by obtain ⟨L, -, -, hc, -⟩ := hv.out; exact hc
  have k1 := and_tt ha.1 ha.2
  have k2 : (decide (0 ≤ limit) && decide (limit < base + (xs.length : Int))) = false := by
    rw [Bool.and_eq_false_iff, decide_eq_false_iff_not, decide_eq_false_iff_not]
    omega
  have hw2 : IntKind.i64.wrap (at_ - base) = at_ - base := wrap_in (by omega) (by omega)
  have c3 : (0 ≤ at_ - base) = True := by simp only [eq_iff_iff, iff_true]; omega
  have c5 : (at_ - base ≤ (xs.length : Int)) = True := by simp only [eq_iff_iff, iff_true]; omega
  have z1 := sl3_isSl (k := (at_ - base).toNat) v1
  have z2 : (sl3 (at_ - base).toNat v).one = true := (SlN.of z1).elim fun _ h => h.one
  simp only [core, zrA, zrS, zrM, zrL, zrE, reduceCtorEq, zrD, ziE, ziL, ziN, Try.ntmps51]
  refine (made_x hd' h0).mono ?_
  rintro _ h1 ⟨e1, rfl⟩
  replace e1 := e1.symm
  subst e1
  simp only [core, zrA, zrS, zrM, zrL, zrE, reduceCtorEq, zrD, ziE, ziL, ziN]
  refine (end_x hd' h0 v1 v2 hb (by omega)).mono ?_
  rintro _ h1 ⟨e1, rfl⟩
  replace e1 := e1.symm
  subst e1
  simp only [core, zrA, zrS, zrM, zrL, zrE, reduceCtorEq, zrD, ziE, ziL, ziN]
  refine (in_x hd').mono ?_
  rintro _ h1 ⟨e1, rfl⟩
  replace e1 := e1.symm
  subst e1
  simp only [core, zrA, zrS, zrM, zrL, zrE, reduceCtorEq, zrD, ziE, ziL, ziN, k1]
  refine (frozen_x hd' h0 v1 v2 hb (by omega)).mono ?_
  rintro _ h1 ⟨e1, rfl⟩
  replace e1 := e1.symm
  subst e1
  simp only [core, zrA, zrS, zrM, zrL, zrE, reduceCtorEq, zrD, ziE, ziL, ziN, k2]
  rw [WB_regionD [0, 1, 2, 3, 4, 5, 6, 7, 8, 9, 10, 11, 12, 13, 14, 15, 16, 17, 18, 19, 20] 2839211736014648557665758718379883074270402574390520616351020571029677543792888199122739727839691877431788753240062496165858990096384 (by kernel_rfl)]
  repeat ((with_reducible refine WDM_cons ?_; simp only [dw1]; try simp only [dw2, zrA, zrM, zrR, zrO, zrE]); simp only [core, zrA, zrS, zrM, zrL, zrE, reduceCtorEq, zrD, ziE, ziL, ziN, cored, L, l, hd, v1, v2, hw2, c3, c5, hcap, a_sl3, slM3, z1, z2, same_sl, same_int, Int.le_refl, Int.toNat_natCast])
  exact (Mod.put _ hd').trans (.put _ (at_put l))
/-- Where a crash leaves the end. -/
def crT (e synced limit keep : Int) : Int :=
  if 0 ≤ limit ∧ limit < (if (if keep < 0 then 0 else keep) < e - synced then synced + (if keep < 0 then 0 else keep) else e) then limit
  else if (if keep < 0 then 0 else keep) < e - synced then synced + (if keep < 0 then 0 else keep) else e
theorem crT_le {e synced limit keep : Int} (h1 : synced ≤ e) (h2 : limit < 0 ∨ synced ≤ limit) : synced ≤ crT e synced limit keep ∧ crT e synced limit keep ≤ e := by
  unfold crT
  obtain ⟨A, hA⟩ : ∃ A, A = if keep < 0 then (0 : Int) else keep := ⟨_, rfl⟩
  have : 0 ≤ A := by rw [hA]; split <;> omega
  rw [← hA]
  split <;> split at * <;> omega
theorem crT_eq {e synced limit keep A B C D E1 : Int} (hA : (if keep < 0 then (0 : Int) else keep) = A) (hB : (if 67108864 < A then 67108864 else A) = B) (hE : E1 = if 0 ≤ limit then (if limit < e then limit else e) else e) (hC : (if synced + B < E1 then synced + B else E1) = C) (hD : (if C < synced then synced else C) = D)
    (h1 : synced ≤ e) (h2 : limit < 0 ∨ synced ≤ limit) (h3 : e - synced ≤ 67108864) : D = crT e synced limit keep := by
  have a0 : 0 ≤ A := by rw [← hA]; split <;> omega
  have b0 : (B = A ∧ A ≤ 67108864) ∨ (B = 67108864 ∧ 67108864 < A) := by
    by_cases c : 67108864 < A
    · rw [if_pos c] at hB; omega
    · rw [if_neg c] at hB; omega
  unfold crT
  rw [hA]
  clear hA hB
  by_cases c1 : 0 ≤ limit
  · rw [if_pos c1] at hE
    have e1 : (E1 = limit ∧ limit < e) ∨ (E1 = e ∧ e ≤ limit) := by split at hE <;> omega
    have e2 : (C = synced + B ∧ synced + B < E1) ∨ (C = E1 ∧ E1 ≤ synced + B) := by split at hC <;> omega
    have e3 : D = C := by split at hD <;> omega
    clear hE hC hD
    split <;> split at * <;> omega
  · rw [if_neg c1] at hE
    have e2 : (C = synced + B ∧ synced + B < E1) ∨ (C = E1 ∧ E1 ≤ synced + B) := by split at hC <;> omega
    have e3 : D = C := by split at hD <;> omega
    clear hC hD
    split <;> split at * <;> omega
theorem crashD_x {H : AH} {d : Nat} {size base synced limit keep : Int} {v : AV} {xs : List UInt8} {F : Nat → Prop} (hd : H.at d = some (dkC size base v synced limit)) (h0 : 0 < size) (hb : 0 ≤ base ∧ base ≤ 4611686018427387904)
    (hv : IsSl RByte F H v xs) (hl : xs.length ≤ 67108864) (hs : base ≤ synced ∧ synced ≤ base + xs.length) (hm : limit < 0 ∨ synced ≤ limit) :
    WC Try.prog (tabOf Try.prog NT0) S0 20 [.ptr d 0, .lit (.int .i64 keep)] H fun r h' => r = .tup [] ∧ Mod d (dkC size base (sl3 (crT (base + xs.length) synced limit keep - base).toNat v) (crT (base + xs.length) synced limit keep) (-1)) H h' := by
  refine WC_fn Try.func20 rfl rfl ?_
  have hd' := hd
  unfold dkC at hd
  have L := ld_at (T := tabOf Try.prog NT0) hd
  have l := at_lt hd
  have v1 := hv.isSl
  have v2 := hv.lenD
  have hcap : CapOk 1 v := by obtain ⟨L, -, -, hc, -⟩ := hv.out; exact hc
  obtain ⟨A, hA⟩ : ∃ A, (if keep < 0 then (0 : Int) else keep) = A := ⟨_, rfl⟩
  obtain ⟨B, hB⟩ : ∃ B, (if 67108864 < A then 67108864 else A) = B := ⟨_, rfl⟩
  obtain ⟨E1, hE⟩ : ∃ E1, E1 = if 0 ≤ limit then (if limit < base + (xs.length : Int) then limit else base + xs.length) else base + xs.length := ⟨_, rfl⟩
  obtain ⟨C, hC⟩ : ∃ C, (if synced + B < E1 then synced + B else E1) = C := ⟨_, rfl⟩
  obtain ⟨D, hD⟩ : ∃ D, (if C < synced then synced else C) = D := ⟨_, rfl⟩
  have hT := crT_eq hA hB hE hC hD hs.2 hm (by omega)
  have hT2 := crT_le (keep := keep) hs.2 hm
  rw [← hT] at hT2 ⊢
  have b0 : 0 ≤ B ∧ B ≤ 67108864 := by
    have a0 : 0 ≤ A := by rw [← hA]; split <;> omega
    rw [← hB]; split <;> omega
  have hwB : IntKind.i64.wrap (synced + B) = synced + B := wrap_in (by omega) (by omega)
  have hw2 : IntKind.i64.wrap (D - base) = D - base := wrap_in (by omega) (by omega)
  have c3 : (0 ≤ D - base) = True := by simp only [eq_iff_iff, iff_true]; omega
  have c5 : (D - base ≤ (xs.length : Int)) = True := by simp only [eq_iff_iff, iff_true]; omega
  have z1 := sl3_isSl (k := (D - base).toNat) v1
  have z2 : (sl3 (D - base).toNat v).one = true := (SlN.of z1).elim fun _ h => h.one
  simp only [core, zrA, zrS, zrM, zrL, zrE, reduceCtorEq, zrD, ziE, ziL, ziN, Try.ntmps20]
  refine (made_x hd' h0).mono ?_
  rintro _ h1 ⟨e1, rfl⟩
  replace e1 := e1.symm
  subst e1
  simp only [core, zrA, zrS, zrM, zrL, zrE, reduceCtorEq, zrD, ziE, ziL, ziN]
  refine (end_x hd' h0 v1 v2 hb (by omega)).mono ?_
  rintro _ h1 ⟨e1, rfl⟩
  replace e1 := e1.symm
  subst e1
  by_cases c1 : 0 ≤ limit
  · rw [if_pos c1] at hE
    have hE := hE.symm
    simp only [core, zrA, zrS, zrM, zrL, zrE, reduceCtorEq, zrD, ziE, ziL, ziN, L, l, c1, hE, hA, hB, hwB, hC, hD]
    rw [WB_regionD [0, 1, 2, 3, 4, 5, 6, 7, 8, 9, 10, 11, 12, 13, 14, 15, 16, 17, 18, 19, 20] 2839211736014648557665758718379883074270402574390520616351020571029677543792888199122739727839691877431788753240062496165858990096384 (by kernel_rfl)]
    repeat ((with_reducible refine WDM_cons ?_; simp only [dw1]; try simp only [dw2, zrA, zrM, zrR, zrO, zrE]); simp only [core, zrA, zrS, zrM, zrL, zrE, reduceCtorEq, zrD, ziE, ziL, ziN, cored, L, l, hd, v1, v2, hw2, c3, c5, hcap, a_sl3, slM3, z1, z2, same_sl, same_int, Int.le_refl, Int.toNat_natCast])
    exact ⟨by simp, ((Mod.put _ hd').trans (.put _ (at_put l))).trans (.put _ (at_put (at_lt (at_put l))))⟩
  · rw [if_neg c1] at hE
    subst hE
    simp only [core, zrA, zrS, zrM, zrL, zrE, reduceCtorEq, zrD, ziE, ziL, ziN, L, l, c1, hA, hB, hwB, hC, hD]
    rw [WB_regionD [0, 1, 2, 3, 4, 5, 6, 7, 8, 9, 10, 11, 12, 13, 14, 15, 16, 17, 18, 19, 20] 2839211736014648557665758718379883074270402574390520616351020571029677543792888199122739727839691877431788753240062496165858990096384 (by kernel_rfl)]
    repeat ((with_reducible refine WDM_cons ?_; simp only [dw1]; try simp only [dw2, zrA, zrM, zrR, zrO, zrE]); simp only [core, zrA, zrS, zrM, zrL, zrE, reduceCtorEq, zrD, ziE, ziL, ziN, cored, L, l, hd, v1, v2, hw2, c3, c5, hcap, a_sl3, slM3, z1, z2, same_sl, same_int, Int.le_refl, Int.toNat_natCast])
    exact ⟨by simp, ((Mod.put _ hd').trans (.put _ (at_put l))).trans (.put _ (at_put (at_lt (at_put l))))⟩
end Go.Proofs.Ytcnbamdmngaliaa.Ex
end

section

set_option linter.unusedSimpArgs false
set_option linter.unusedVariables false
set_option maxRecDepth 10000
set_option maxHeartbeats 4000000
namespace Go.Proofs.Ytcnbamdmngaliaa.Ex
open Go
theorem VwB.fresh {n0 p : Nat} {h : AH} (hp : h.at p = some (.cells [] 5)) (hn : n0 ≤ p) : VwB n0 h (.sl p 0 0 (.kn 0)) [] := .inr ⟨p, [], .kn 0, rfl, hn, hp, rfl, .inr rfl⟩
theorem VwB.sl {n0 : Nat} {h : AH} {v : AV} {xs : List UInt8} (ho : VwB n0 h v xs) : IsSl RByte (fun b => n0 ≤ b) h v xs := ho.toSl fun b off n cap e => (ho.lt _ _ _ _ e).1
theorem IsSl.putLt {n0 p : Nat} {h : AH} {v : AV} {xs : List UInt8} (ho : IsSl RByte (fun b => n0 ≤ b) h v xs) (hp : p < n0) (x : AB) : IsSl RByte (fun b => n0 ≤ b) (h.put p x) v xs := ho.lift fun b hb hlt => ⟨at_put_ne _ (by omega), hb⟩
theorem appendE_x {H : AH} {d : Nat} {size base synced limit : Int} {v x : AV} {xs ys : List UInt8} {F G : Nat → Prop} (hd : H.at d = some (ekC size base v synced limit)) (h0 : 0 < size) (hs : size ≤ 67108864) (hb : 0 ≤ base ∧ base ≤ 4611686018427387904)
    (hv : IsSl RByte G H v xs) (hl : (xs.length : Int) ≤ size) (hx : IsSl RByte F H x ys) (hy : ys.length ≤ 1000000000) :
    WC Try.prog (tabOf Try.prog NT0) S0 10 [.ptr d 0, x] H fun r h' => if size - xs.length < ys.length then h' = H ∧ r = .tup [.lit (.int .i64 0), .lit (.int .i64 28)]
      else r = .tup [.lit (.int .i64 (base + xs.length)), .lit (.int .i64 0)] ∧ Cg [d] H h' ∧ ∃ v', h'.at d = some (ekC size base v' synced limit) ∧ IsSl RByte (fun b => H.n ≤ b) h' v' (xs ++ ys) := by
  refine WC_fn Try.func10 rfl rfl ?_
  have hd' := hd
  unfold ekC at hd
  have L := ld_at (T := tabOf Try.prog NT0) hd
  have l := at_lt hd
  have v1 := hv.isSl
  have v2 := hv.lenD
  have x1 := hx.isSl
  have x2 := hx.lenD
  have hw : IntKind.i64.wrap (size - (xs.length : Int)) = size - xs.length := wrap_in (by omega) (by omega)
  simp only [core, zrA, zrS, zrM, zrL, zrE, reduceCtorEq, zrD, ziE, ziL, ziN, Try.ntmps10]
  by_cases c : size - (xs.length : Int) < ys.length
  · simp only [if_pos c]
    rw [WB_regionD [0, 1, 2, 3, 4, 5, 6, 7, 8, 9, 10, 11, 12] 374075867972729593563154991592821759488596599906304 (by kernel_rfl)]
    repeat ((with_reducible refine WDM_cons ?_; simp only [dw1]; try simp only [dw2, zrA, zrM, zrR, zrO, zrE]); simp only [core, zrA, zrS, zrM, zrL, zrE, reduceCtorEq, zrD, ziE, ziL, ziN, cored, L, l, v1, v2, x1, x2, hw, c])
    try simp
  · simp only [if_neg c]
    rw [WB_regionD [0, 1, 2, 3, 4, 5, 6, 7, 8, 9, 10, 11, 12] 374075867972729593563154991592821759488596599906304 (by kernel_rfl)]
    repeat ((with_reducible refine WDM_cons ?_; simp only [dw1]; try simp only [dw2, zrA, zrM, zrR, zrO, zrE]); simp only [core, zrA, zrS, zrM, zrL, zrE, reduceCtorEq, zrD, ziE, ziL, ziN, cored, L, l, v1, v2, x1, x2, hw, c])
    refine (endE_x hd' v1 v2 hb (by omega)).mono ?_
    rintro _ h1 ⟨e1, rfl⟩
    replace e1 := e1.symm
    subst e1
    simp only [core, zrA, zrS, zrM, zrL, zrE, reduceCtorEq, zrD, ziE, ziL, ziN, L, l]
    obtain ⟨h4, hh4⟩ : ∃ h4, h4 = H.push (.cells [] 5) := ⟨_, rfl⟩
    have E34 : Ext H.n H h4 := hh4 ▸ (Ext.refl H.n H).push _ (Nat.le_refl _)
    have A4 : h4.at H.n = some (.cells [] 5) := hh4 ▸ at_push_n _ _
    have hn4 : h4.n = H.n + 1 := hh4 ▸ n_push _ _
    rw [← hh4]
    refine WOp_app ((VwB.fresh A4 (Nat.le_refl _)).app (hv.ext E34 (Nat.le_refl _)) (by simp only [List.length_nil]; omega) (by omega)) ?_
    rintro s5 h5 ⟨V5, -, E5⟩
    rw [List.nil_append] at V5
    have E5 := E34.trans E5
    simp only [core, zrA, zrS, zrM, zrL, zrE, reduceCtorEq, zrD, ziE, ziL, ziN]
    refine WOp_app (V5.app (hx.ext E5 (Nat.le_refl _)) (by omega) E5.1) ?_
    rintro s6 h6 ⟨V6, -, E6⟩
    have E6 := E5.trans E6
    have hd6 := E6.at l hd
    have l6 := at_lt hd6
    have z1 := V6.one
    simp only [core, zrA, zrS, zrM, zrL, zrE, reduceCtorEq, zrD, ziE, ziL, ziN, hd6, l6, z1]
    exact ⟨(Cg.ext E6).trans (.put _ (by simp)), s6, rfl, V6.sl.putLt l _⟩
theorem readE_x {H : AH} {d : Nat} {size base synced limit at_ n : Int} {v : AV} {xs : List UInt8} {F : Nat → Prop} (hd : H.at d = some (ekC size base v synced limit)) (hb : 0 ≤ base ∧ base ≤ 4611686018427387904)
    (hv : IsSl RByte F H v xs) (hl : xs.length ≤ 67108864) (ha : base ≤ at_ ∧ at_ ≤ base + xs.length) (hn : 0 ≤ n ∧ n ≤ base + xs.length - at_) :
    WC Try.prog (tabOf Try.prog NT0) S0 54 [.ptr d 0, .lit (.int .i64 at_), .lit (.int .i64 n)] H fun r h' => Ext H.n H h' ∧ ∃ v', r = .tup [v', .lit (.int .i64 0)] ∧ IsSl RByte (fun b => H.n ≤ b) h' v' ((xs.drop (at_ - base).toNat).take n.toNat) := by
  refine WC_fn Try.func54 rfl rfl ?_
  have hd' := hd
  unfold ekC at hd
  have L := ld_at (T := tabOf Try.prog NT0) hd
  have l := at_lt hd
  have v1 := hv.isSl
  have v2 := hv.lenD
  have hcap : CapOk 1 v := by obtain ⟨L, -, -, hc, -⟩ := hv.out; exact hc
  have hw1 : IntKind.i64.wrap (base + (xs.length : Int) - at_) = base + xs.length - at_ := wrap_in (by omega) (by omega)
  have hw2 : IntKind.i64.wrap (at_ - base) = at_ - base := wrap_in (by omega) (by omega)
  have hw3 : IntKind.i64.wrap (at_ - base + n) = at_ - base + n := wrap_in (by omega) (by omega)
  have c0 : (at_ < base) = False := by simp only [eq_iff_iff, iff_false]; omega
  have c0' : (base + (xs.length : Int) < at_) = False := by simp only [eq_iff_iff, iff_false]; omega
  have c1 : (n < 0) = False := by simp only [eq_iff_iff, iff_false]; omega
  have c2 : (base + (xs.length : Int) - at_ < n) = False := by simp only [eq_iff_iff, iff_false]; omega
  have c3 : (0 ≤ at_ - base) = True := by simp only [eq_iff_iff, iff_true]; omega
  have c4 : (at_ - base ≤ at_ - base + n) = True := by simp only [eq_iff_iff, iff_true]; omega
  have c5 : (at_ - base + n ≤ (xs.length : Int)) = True := by simp only [eq_iff_iff, iff_true]; omega
  simp only [core, zrA, zrS, zrM, zrL, zrE, reduceCtorEq, zrD, ziE, ziL, ziN, Try.ntmps54, L, l, c0]
  refine (endE_x hd' v1 v2 hb (by omega)).mono ?_
  rintro _ h1 ⟨e1, rfl⟩
  replace e1 := e1.symm
  subst e1
  simp only [core, zrA, zrS, zrM, zrL, zrE, reduceCtorEq, zrD, ziE, ziL, ziN, c0', c1]
  refine (endE_x hd' v1 v2 hb (by omega)).mono ?_
  rintro _ h1 ⟨e1, rfl⟩
  replace e1 := e1.symm
  subst e1
  simp only [core, zrA, zrS, zrM, zrL, zrE, reduceCtorEq, zrD, ziE, ziL, ziN, hw1, c2]
  rw [WB_regionD [0, 1, 2, 3, 4, 5, 6, 7, 8, 9, 10, 11, 12, 13, 14, 15, 16, 17, 18, 19, 20, 21, 22] 878693943373947012260230268303598673599023874525668062621169877361309946318519148021826180794443950023563267286462265666161183624897629921259403297464447401984 (by kernel_rfl)]
  repeat ((with_reducible refine WDM_cons ?_; simp only [dw1]; try simp only [dw2, zrA, zrM, zrR, zrO, zrE]); simp only [core, zrA, zrS, zrM, zrL, zrE, reduceCtorEq, zrD, ziE, ziL, ziN, cored, L, l, v1, v2, hw2, hw3, c3, c4, c5, hcap])
  have hs := hv.sub (l := (at_ - base).toNat) (r := (at_ - base + n).toNat) (by omega) (by omega)
  have e1 : ((xs.take (at_ - base + n).toNat).drop (at_ - base).toNat) = (xs.drop (at_ - base).toNat).take n.toNat := by
    rw [List.take_drop, show (at_ - base).toNat + n.toNat = (at_ - base + n).toNat by omega]
  rw [e1] at hs
  have hlen : ((xs.drop (at_ - base).toNat).take n.toNat).length ≤ 67108864 := by rw [List.length_take, List.length_drop]; omega
  obtain ⟨h4, hh4⟩ : ∃ h4, h4 = H.push (.cells [] 5) := ⟨_, rfl⟩
  have E34 : Ext H.n H h4 := hh4 ▸ (Ext.refl H.n H).push _ (Nat.le_refl _)
  have A4 : h4.at H.n = some (.cells [] 5) := hh4 ▸ at_push_n _ _
  have hn4 : h4.n = H.n + 1 := hh4 ▸ n_push _ _
  rw [← hh4]
  refine WOpD_app ((VwB.fresh A4 (Nat.le_refl _)).app (hs.ext E34 (Nat.le_refl _)) (by simp only [List.length_nil]; omega) (by omega)) ?_
  rintro s' h' ⟨V5, -, E5⟩
  rw [List.nil_append] at V5
  have E := E34.trans E5
  have hd2 := E.at l hd
  have L2 := ld_at (T := tabOf Try.prog NT0) hd2
  have l2 := at_lt hd2
  repeat ((with_reducible refine WDM_cons ?_; simp only [dw1]; try simp only [dw2, zrA, zrM, zrR, zrO, zrE]); simp only [core, zrA, zrS, zrM, zrL, zrE, reduceCtorEq, zrD, ziE, ziL, ziN, cored, L2, l2, v1, same_sl, same_int])
  exact ⟨E, _, rfl, V5.sl⟩
theorem trimE_x {H : AH} {d : Nat} {size base synced limit at_ : Int} {v : AV} {xs : List UInt8} {F : Nat → Prop} (hd : H.at d = some (ekC size base v synced limit)) (hb : 0 ≤ base ∧ base ≤ 4611686018427387904)
    (hv : IsSl RByte F H v xs) (hl : xs.length ≤ 67108864) (hs : base ≤ synced ∧ synced ≤ base + xs.length) :
    WC Try.prog (tabOf Try.prog NT0) S0 57 [.ptr d 0, .lit (.int .i64 at_)] H fun r h' => if base ≤ at_ ∧ at_ ≤ synced then r = .lit (.int .i64 0) ∧ if 0 ≤ limit ∧ limit < base + xs.length then h' = H else
      Cg [d] H h' ∧ ∃ v', h'.at d = some (ekC size at_ v' synced limit) ∧ IsSl RByte (fun b => H.n ≤ b) h' v' (xs.drop (at_ - base).toNat) else h' = H ∧ r = .lit (.int .i64 22) := by
  refine WC_fn Try.func57 rfl rfl ?_
  have hd' := hd
  unfold ekC at hd
  have L := ld_at (T := tabOf Try.prog NT0) hd
  have l := at_lt hd
  have v1 := hv.isSl
  have v2 := hv.lenD
  have hcap : CapOk 1 v := by obtain ⟨L, -, -, hc, -⟩ := hv.out; exact hc
  by_cases ha : base ≤ at_ ∧ at_ ≤ synced
  case neg =>
    simp only [if_neg ha]
    by_cases c : at_ < base
    · simp only [core, zrA, zrS, zrM, zrL, zrE, reduceCtorEq, zrD, ziE, ziL, ziN, Try.ntmps57, L, l, c, aundef]
    · have c2 : synced < at_ := by omega
      simp only [core, zrA, zrS, zrM, zrL, zrE, reduceCtorEq, zrD, ziE, ziL, ziN, Try.ntmps57, L, l, c, c2, aundef]
  have c0 : (at_ < base) = False := by simp only [eq_iff_iff, iff_false]; omega
  have c0' : (synced < at_) = False := by simp only [eq_iff_iff, iff_false]; omega
  simp only [if_pos ha]
  simp only [core, zrA, zrS, zrM, zrL, zrE, reduceCtorEq, zrD, ziE, ziL, ziN, Try.ntmps57, L, l, c0, c0']
  refine (frozenE_x hd' v1 v2 hb (by omega)).mono ?_
  rintro _ h1 ⟨e1, rfl⟩
  replace e1 := e1.symm
  subst e1
  by_cases c1 : 0 ≤ limit ∧ limit < base + xs.length
  · have k2 := and_tt c1.1 c1.2
    simp only [if_pos c1]
    simp only [core, zrA, zrS, zrM, zrL, zrE, reduceCtorEq, zrD, ziE, ziL, ziN, k2]
  · have k2 : (decide (0 ≤ limit) && decide (limit < base + (xs.length : Int))) = false := by
      rw [Bool.and_eq_false_iff, decide_eq_false_iff_not, decide_eq_false_iff_not]
      omega
    simp only [if_neg c1]
    simp only [core, zrA, zrS, zrM, zrL, zrE, reduceCtorEq, zrD, ziE, ziL, ziN, k2]
    have hw2 : IntKind.i64.wrap (at_ - base) = at_ - base := wrap_in (by omega) (by omega)
    have c3 : (0 ≤ at_ - base) = True := by simp only [eq_iff_iff, iff_true]; omega
    have c5 : (at_ - base ≤ (xs.length : Int)) = True := by simp only [eq_iff_iff, iff_true]; omega
    rw [WB_regionD [0, 1, 2, 3, 4, 5, 6, 7, 8, 9, 10, 11, 12, 13, 14, 15, 16] 497317544946356996437003369024153854240367161207018835259655062838273989117449466806272 (by kernel_rfl)]
    repeat ((with_reducible refine WDM_cons ?_; simp only [dw1]; try simp only [dw2, zrA, zrM, zrR, zrO, zrE]); simp only [core, zrA, zrS, zrM, zrL, zrE, reduceCtorEq, zrD, ziE, ziL, ziN, cored, L, l, v1, v2, hw2, c3, c5, hcap, Int.le_refl, Int.toNat_natCast])
    have hs := hv.sub (l := (at_ - base).toNat) (r := xs.length) (by omega) (Nat.le_refl _)
    rw [List.take_length] at hs
    have hlen : (xs.drop (at_ - base).toNat).length ≤ 67108864 := by rw [List.length_drop]; omega
    obtain ⟨h4, hh4⟩ : ∃ h4, h4 = H.push (.cells [] 5) := ⟨_, rfl⟩
    have E34 : Ext H.n H h4 := hh4 ▸ (Ext.refl H.n H).push _ (Nat.le_refl _)
    have A4 : h4.at H.n = some (.cells [] 5) := hh4 ▸ at_push_n _ _
    have hn4 : h4.n = H.n + 1 := hh4 ▸ n_push _ _
    rw [← hh4]
    refine WOpD_app ((VwB.fresh A4 (Nat.le_refl _)).app (hs.ext E34 (Nat.le_refl _)) (by simp only [List.length_nil]; omega) (by omega)) ?_
    rintro s' h' ⟨V5, -, E5⟩
    rw [List.nil_append] at V5
    have E := E34.trans E5
    have hd2 := E.at l hd
    have L2 := ld_at (T := tabOf Try.prog NT0) hd2
    have l2 := at_lt hd2
    have z1 := V5.isSl
    have z2 := V5.one
    repeat ((with_reducible refine WDM_cons ?_; simp only [dw1]; try simp only [dw2, zrA, zrM, zrR, zrO, zrE]); simp only [core, zrA, zrS, zrM, zrL, zrE, reduceCtorEq, zrD, ziE, ziL, ziN, cored, L2, l2, hd2, v1, z1, z2, same_sl, same_int])
    exact ⟨((Cg.ext E).trans (.put _ (by simp))).trans (.put _ (by simp)), s', rfl, (V5.sl.putLt l _).putLt l _⟩
theorem cutE_x {H : AH} {d : Nat} {size base synced limit at_ : Int} {v : AV} {xs : List UInt8} {F : Nat → Prop} (hd : H.at d = some (ekC size base v synced limit)) (hb : 0 ≤ base ∧ base ≤ 4611686018427387904)
    (hv : IsSl RByte F H v xs) (hl : xs.length ≤ 67108864) (ha : base ≤ at_ ∧ at_ ≤ base + xs.length) (hm : limit < 0) :
    WC Try.prog (tabOf Try.prog NT0) S0 52 [.ptr d 0, .lit (.int .i64 at_)] H fun r h' => r = .lit (.int .i64 0) ∧ Cg [d] H h' ∧ ∃ v', h'.at d = some (ekC size base v' (if at_ < synced then at_ else synced) limit) ∧ IsSl RByte (fun b => H.n ≤ b) h' v' (xs.take (at_ - base).toNat) := by
  refine WC_fn Try.func52 rfl rfl ?_
  have hd' := hd
  unfold ekC at hd
  have L := ld_at (T := tabOf Try.prog NT0) hd
  have l := at_lt hd
  have v1 := hv.isSl
  have v2 := hv.lenD
  have hcap : CapOk 1 v := by obtain ⟨L, -, -, hc, -⟩ := hv.out; exact hc
  have c0 : (at_ < base) = False := by simp only [eq_iff_iff, iff_false]; omega
  have c0' : (base + (xs.length : Int) < at_) = False := by simp only [eq_iff_iff, iff_false]; omega
  have k2 : (decide (0 ≤ limit) && decide (limit < base + (xs.length : Int))) = false := by
    rw [Bool.and_eq_false_iff, decide_eq_false_iff_not, decide_eq_false_iff_not]
    omega
  have hw2 : IntKind.i64.wrap (at_ - base) = at_ - base := wrap_in (by omega) (by omega)
  have c3 : (0 ≤ at_ - base) = True := by simp only [eq_iff_iff, iff_true]; omega
  have c5 : (at_ - base ≤ (xs.length : Int)) = True := by simp only [eq_iff_iff, iff_true]; omega
  simp only [core, zrA, zrS, zrM, zrL, zrE, reduceCtorEq, zrD, ziE, ziL, ziN, Try.ntmps52, L, l, c0]
  refine (endE_x hd' v1 v2 hb (by omega)).mono ?_
  rintro _ h1 ⟨e1, rfl⟩
  replace e1 := e1.symm
  subst e1
  simp only [core, zrA, zrS, zrM, zrL, zrE, reduceCtorEq, zrD, ziE, ziL, ziN, c0']
  refine (frozenE_x hd' v1 v2 hb (by omega)).mono ?_
  rintro _ h1 ⟨e1, rfl⟩
  replace e1 := e1.symm
  subst e1
  simp only [core, zrA, zrS, zrM, zrL, zrE, reduceCtorEq, zrD, ziE, ziL, ziN, k2]
  rw [WB_regionD [0, 1, 2, 3, 4, 5, 6, 7, 8, 9, 10, 11, 12, 13, 14, 15, 16] 497317544946356996437003369024153854240367161207018835259655062838273989117449466806272 (by kernel_rfl)]
  repeat ((with_reducible refine WDM_cons ?_; simp only [dw1]; try simp only [dw2, zrA, zrM, zrR, zrO, zrE]); simp only [core, zrA, zrS, zrM, zrL, zrE, reduceCtorEq, zrD, ziE, ziL, ziN, cored, L, l, v1, v2, hw2, c3, c5, hcap, Int.le_refl, Int.toNat_natCast])
  have hs := hv.sub (l := 0) (r := (at_ - base).toNat) (Nat.zero_le _) (by omega)
  rw [List.drop_zero] at hs
  have hlen : (xs.take (at_ - base).toNat).length ≤ 67108864 := by rw [List.length_take]; omega
  obtain ⟨h4, hh4⟩ : ∃ h4, h4 = H.push (.cells [] 5) := ⟨_, rfl⟩
  have E34 : Ext H.n H h4 := hh4 ▸ (Ext.refl H.n H).push _ (Nat.le_refl _)
  have A4 : h4.at H.n = some (.cells [] 5) := hh4 ▸ at_push_n _ _
  have hn4 : h4.n = H.n + 1 := hh4 ▸ n_push _ _
  rw [← hh4]
  refine WOpD_app ((VwB.fresh A4 (Nat.le_refl _)).app (hs.ext E34 (Nat.le_refl _)) (by simp only [List.length_nil]; omega) (by omega)) ?_
  rintro s' h' ⟨V5, -, E5⟩
  rw [List.nil_append] at V5
  have E := E34.trans E5
  have hd2 := E.at l hd
  have L2 := ld_at (T := tabOf Try.prog NT0) hd2
  have l2 := at_lt hd2
  have z1 := V5.isSl
  have z2 := V5.one
  by_cases c6 : at_ < synced
  · simp only [if_pos c6]
    repeat ((with_reducible refine WDM_cons ?_; simp only [dw1]; try simp only [dw2, zrA, zrM, zrR, zrO, zrE]); simp only [core, zrA, zrS, zrM, zrL, zrE, reduceCtorEq, zrD, ziE, ziL, ziN, cored, L2, l2, hd2, v1, z1, z2, c6, same_sl, same_int])
    exact ⟨((Cg.ext E).trans (.put _ (by simp))).trans (.put _ (by simp)), s', rfl, (V5.sl.putLt l _).putLt l _⟩
  · simp only [if_neg c6]
    repeat ((with_reducible refine WDM_cons ?_; simp only [dw1]; try simp only [dw2, zrA, zrM, zrR, zrO, zrE]); simp only [core, zrA, zrS, zrM, zrL, zrE, reduceCtorEq, zrD, ziE, ziL, ziN, cored, L2, l2, hd2, v1, z1, z2, c6, same_sl, same_int])
    exact ⟨(Cg.ext E).trans (.put _ (by simp)), s', rfl, V5.sl.putLt l _⟩
theorem crashE_x {H : AH} {d : Nat} {size base synced limit keep : Int} {v : AV} {xs : List UInt8} {F : Nat → Prop} (hd : H.at d = some (ekC size base v synced limit)) (hb : 0 ≤ base ∧ base ≤ 4611686018427387904)
    (hv : IsSl RByte F H v xs) (hl : xs.length ≤ 67108864) (hs : base ≤ synced ∧ synced ≤ base + xs.length) (hm : limit < 0 ∨ synced ≤ limit) :
    WC Try.prog (tabOf Try.prog NT0) S0 39 [.ptr d 0, .lit (.int .i64 keep)] H fun r h' => r = .tup [] ∧ Cg [d] H h' ∧ ∃ v', h'.at d = some (ekC size base v' (crT (base + xs.length) synced limit keep) (-1)) ∧ IsSl RByte (fun b => H.n ≤ b) h' v' (xs.take (crT (base + xs.length) synced limit keep - base).toNat) := by
  refine WC_fn Try.func39 rfl rfl ?_
  have hd' := hd
  unfold ekC at hd
  have L := ld_at (T := tabOf Try.prog NT0) hd
  have l := at_lt hd
  have v1 := hv.isSl
  have v2 := hv.lenD
  have hcap : CapOk 1 v := by obtain ⟨L, -, -, hc, -⟩ := hv.out; exact hc
  have hT2 := crT_le (keep := keep) hs.2 hm
  obtain ⟨T, hT⟩ : ∃ T, T = crT (base + xs.length) synced limit keep := ⟨_, rfl⟩
  rw [← hT] at hT2 ⊢
  have hw1 : IntKind.i64.wrap (base + (xs.length : Int) - synced) = base + xs.length - synced := wrap_in (by omega) (by omega)
  have hw2 : IntKind.i64.wrap (T - base) = T - base := wrap_in (by omega) (by omega)
  have c3 : (0 ≤ T - base) = True := by simp only [eq_iff_iff, iff_true]; omega
  have c5 : (T - base ≤ (xs.length : Int)) = True := by simp only [eq_iff_iff, iff_true]; omega
  obtain ⟨A, hA⟩ : ∃ A, (keep < 0 ∧ A = 0) ∨ (¬ keep < 0 ∧ A = keep) := by
    by_cases c : keep < 0
    · exact ⟨0, .inl ⟨c, rfl⟩⟩
    · exact ⟨keep, .inr ⟨c, rfl⟩⟩
  obtain ⟨E1, hE⟩ : ∃ E1, (A < base + (xs.length : Int) - synced ∧ E1 = synced + A) ∨ (¬ A < base + (xs.length : Int) - synced ∧ E1 = base + xs.length) := by
    by_cases c : A < base + (xs.length : Int) - synced
    · exact ⟨synced + A, .inl ⟨c, rfl⟩⟩
    · exact ⟨_, .inr ⟨c, rfl⟩⟩
  have hA0 : 0 ≤ A := by omega
  have hL : (0 ≤ limit ∧ limit < E1 ∧ T = limit) ∨ (0 ≤ limit ∧ ¬ limit < E1 ∧ T = E1) ∨ (¬ 0 ≤ limit ∧ True ∧ T = E1) := by
    have eA : (if keep < 0 then (0 : Int) else keep) = A := by split <;> omega
    have eE : (if A < base + (xs.length : Int) - synced then synced + A else base + (xs.length : Int)) = E1 := by split <;> omega
    unfold crT at hT
    rw [eA, eE] at hT
    by_cases c : 0 ≤ limit ∧ limit < E1
    · rw [if_pos c] at hT; exact .inl ⟨c.1, c.2, hT⟩
    · rw [if_neg c] at hT
      by_cases c0 : 0 ≤ limit
      · exact .inr (.inl ⟨c0, fun h => c ⟨c0, h⟩, hT⟩)
      · exact .inr (.inr ⟨c0, trivial, hT⟩)
  have hwA : IntKind.i64.wrap (synced + A) = synced + A ∨ ¬ A < base + (xs.length : Int) - synced := by
    by_cases c : A < base + (xs.length : Int) - synced
    · exact .inl (wrap_in (by omega) (by omega))
    · exact .inr c
  have hs := hv.sub (l := 0) (r := (T - base).toNat) (Nat.zero_le _) (by omega)
  rw [List.drop_zero] at hs
  have hlen : (xs.take (T - base).toNat).length ≤ 67108864 := by rw [List.length_take]; omega
  obtain ⟨h4, hh4⟩ : ∃ h4, h4 = H.push (.cells [] 5) := ⟨_, rfl⟩
  have E34 : Ext H.n H h4 := hh4 ▸ (Ext.refl H.n H).push _ (Nat.le_refl _)
  have A4 : h4.at H.n = some (.cells [] 5) := hh4 ▸ at_push_n _ _
  have hn4 : h4.n = H.n + 1 := hh4 ▸ n_push _ _
  have happ := (VwB.fresh A4 (Nat.le_refl _)).app (hs.ext E34 (Nat.le_refl _)) (by simp only [List.length_nil]; omega) (by omega)
  clear hT hs
  rcases hL with ⟨m3, m4, rfl⟩ | ⟨m3, m4, rfl⟩ | ⟨m3, m4, rfl⟩ <;> rcases hE with ⟨c2, rfl⟩ | ⟨c2, rfl⟩ <;> rcases hA with ⟨c1, rfl⟩ | ⟨c1, rfl⟩ <;> (
    simp only [c2, not_true_eq_false, or_false, not_false_eq_true, or_true] at hwA
    simp only [core, zrA, zrS, zrM, zrL, zrE, reduceCtorEq, zrD, ziE, ziL, ziN, Try.ntmps39, c1]
    refine (endE_x hd' v1 v2 hb (by omega)).mono ?_
    rintro _ h1 ⟨e1, rfl⟩
    replace e1 := e1.symm
    subst e1
    simp only [core, zrA, zrS, zrM, zrL, zrE, reduceCtorEq, zrD, ziE, ziL, ziN, L, l, hw1, c1, c2, m3, m4, hwA, aundef]
    rw [WB_regionD [0, 1, 2, 3, 4, 5, 6, 7, 8, 9, 10, 11, 12, 13, 14, 15, 16] 497317544946356996437003369024153854240367161207018835259655062838273989117449466806272 (by kernel_rfl)]
    repeat ((with_reducible refine WDM_cons ?_; simp only [dw1]; try simp only [dw2, zrA, zrM, zrR, zrO, zrE]); simp only [core, zrA, zrS, zrM, zrL, zrE, reduceCtorEq, zrD, ziE, ziL, ziN, cored, L, l, v1, v2, hw2, c3, c5, hcap, Int.le_refl, Int.toNat_natCast])
    rw [← hh4]
    refine WOpD_app happ ?_
    rintro s' h' ⟨V5, -, E5⟩
    rw [List.nil_append] at V5
    have E := E34.trans E5
    have hd2 := E.at l hd
    have L2 := ld_at (T := tabOf Try.prog NT0) hd2
    have l2 := at_lt hd2
    have z1 := V5.isSl
    have z2 := V5.one
    repeat ((with_reducible refine WDM_cons ?_; simp only [dw1]; try simp only [dw2, zrA, zrM, zrR, zrO, zrE]); simp only [core, zrA, zrS, zrM, zrL, zrE, reduceCtorEq, zrD, ziE, ziL, ziN, cored, L2, l2, hd2, v1, z1, z2, same_sl, same_int])
    exact ⟨by simp, (((Cg.ext E).trans (.put _ (by simp))).trans (.put _ (by simp))).trans (.put _ (by simp)), s', rfl, ((V5.sl.putLt l _).putLt l _).putLt l _⟩)
end Go.Proofs.Ytcnbamdmngaliaa.Ex
end

section

set_option linter.unusedSimpArgs false
set_option linter.unusedVariables false
set_option maxRecDepth 10000
set_option maxHeartbeats 4000000
namespace Go.Proofs.Ytcnbamdmngaliaa.Ex
open Go
theorem frameE_x {H : AH} {v : AV} {bs : List UInt8} {F : Nat → Prop} (hv : IsSl RByte F H v bs) (hl : bs.length ≤ 524288) :
    WC Try.prog (tabOf Try.prog NT0) S0 53 [v] H fun r h' => Ext H.n H h' ∧ OwnB H.n h' r (frameB bs) := by
  refine WC_fn Try.func53 rfl rfl ?_
  have v1 := hv.isSl
  have v2 := hv.lenD
  have c1 : ((524288 : Int) < (bs.length : Int)) = False := by simp only [eq_iff_iff, iff_false]; omega
  have hcv : IntKind.u32.wrap (bs.length : Int) = (bs.length : Int) := wrap_u32 (by omega) (by omega)
  simp only [core, zrA, zrS, zrM, zrL, zrE, reduceCtorEq, zrD, ziE, ziL, ziN, Try.ntmps53, v1, v2, c1]
  refine (count2_x (n0 := H.n) (bs.length : Int) (.nil) (Nat.le_refl _) (by simp)).mono ?_
  rintro s1 h1 ⟨f1, o1⟩
  have E1 := f1.toExt (n0 := H.n) (.nil) (Nat.le_refl _)
  rw [hcv, encN4, List.nil_append] at o1
  have l1 := leB_length 4 bs.length
  have l2 := leB_length 4 (crcN bs)
  have hv1 := hv.ext E1 (Nat.le_refl _)
  simp only [core, zrA, zrS, zrM, zrL, zrE, reduceCtorEq, zrD, ziE, ziL, ziN]
  refine crcD_c hv1.bytesOf (by omega) ?_
  simp only [core, zrA, zrS, zrM, zrL, zrE, reduceCtorEq, zrD, ziE, ziL, ziN]
  refine (word2_x (n0 := H.n) (crcN bs : Int) o1 E1.1 (by omega)).mono ?_
  rintro s2 h2 ⟨f2, o2⟩
  have E2 := E1.trans (f2.toExt (n0 := H.n) o1 E1.1)
  rw [encN4] at o2
  have hv2 := hv.ext E2 (Nat.le_refl _)
  simp only [core, zrA, zrS, zrM, zrL, zrE, reduceCtorEq, zrD, ziE, ziL, ziN]
  refine WOp_app (o2.app hv2 (by rw [List.length_append]; omega) E2.1) ?_
  rintro s3 h3 ⟨o3, E3⟩
  simp only [core, zrA, zrS, zrM, zrL, zrE, reduceCtorEq, zrD, ziE, ziL, ziN]
  exact ⟨E2.trans E3, o3⟩
theorem Mod.ext {n0 d : Nat} {x : AB} {H h' : AH} (m : Mod d x H h') (hd : n0 ≤ d) : Ext n0 H h' := ⟨by rw [m.n]; exact Nat.le_refl _, fun b hb => m.ne b (by omega)⟩
/-- What Unframe gives. -/
def UnfO (n0 : Nat) (h : AH) (u : List UInt8 × Nat × Nat) (r : AV) : Prop := ∃ s, r = .tup [s, .lit (.int .i64 (u.2.1 : Int)), .lit (.int .i64 (u.2.2 : Int))] ∧ IsSl RByte (fun b => n0 ≤ b) h s u.1
theorem unframe_x {H : AH} {v : AV} {bs : List UInt8} {F : Nat → Prop} (hv : IsSl RByte F H v bs) (hl : bs.length ≤ 1000000000) :
    WC Try.prog (tabOf Try.prog NT0) S0 50 [v] H fun r h' => Ext H.n H h' ∧ UnfO H.n h' (unfr bs) r := by
  refine WC_fn Try.func50 rfl rfl ?_
  have v1 := hv.isSl
  have v2 := hv.lenD
  by_cases c8 : bs.length < 8
  · have c8i : ((bs.length : Int) < 8) = True := by simp only [eq_iff_iff, iff_true]; omega
    have hu : unfr bs = ([], 0, 11) := by unfold unfr; rw [if_pos c8]
    rw [hu]
    simp only [core, zrA, zrS, zrM, zrL, zrE, reduceCtorEq, zrD, ziE, ziL, ziN, Try.ntmps50, v1, v2, c8i]
    exact ⟨Ext.refl _ _, _, rfl, .bytesNil⟩
  have c8i : ((bs.length : Int) < 8) = False := by simp only [eq_iff_iff, iff_false]; omega
  have w1 := hv.one
  simp only [core, zrA, zrS, zrM, zrL, zrE, reduceCtorEq, zrD, ziE, ziL, ziN, Try.ntmps50, v1, v2, c8i, w1]
  obtain ⟨h1, hh1⟩ : ∃ h1, h1 = H.push (cdC v) := ⟨_, rfl⟩
  have E1 : Ext H.n H h1 := hh1 ▸ (Ext.refl _ _).push _ (Nat.le_refl _)
  have A1 : h1.at H.n = some (cdC v) := hh1 ▸ at_push_n _ _
  have hn1 : h1.n = H.n + 1 := hh1 ▸ n_push _ _
  unfold cdC at hh1
  rw [← hh1]
  clear hh1
  have hv1 := hv.ext E1 (Nat.le_refl _)
  refine (word_x A1 hv1 (by omega) hl).mono ?_
  rintro _ h2 ⟨rfl, m2⟩
  have E2 : Ext H.n H h2 := E1.trans (m2.ext (Nat.le_refl _))
  have hs2 : IsSl RByte F h2 (subSl 1 4 bs.length v) (bs.drop 4) := by
    have := (hv.sub (l := 4) (r := bs.length) (by omega) (Nat.le_refl _)).ext E2 (Nat.le_refl _)
    rw [List.take_length] at this
    exact this
  have hn2 : h2.n = H.n + 1 := m2.n.trans hn1
  have N1 : leN (bs.take 4) < 4294967296 := by
    have := leN_lt (bs.take 4)
    rw [List.length_take, Nat.min_eq_left (by omega)] at this
    exact this
  have hc1 : IntKind.i64.wrap ((leN (bs.take 4) : Nat) : Int) = ((leN (bs.take 4) : Nat) : Int) := wrap_in (by omega) (by omega)
  simp only [core, zrA, zrS, zrM, zrL, zrE, reduceCtorEq, zrD, ziE, ziL, ziN, hc1]
  refine (word_x m2.at_ hs2 (by rw [List.length_drop]; omega) (by rw [List.length_drop]; omega)).mono ?_
  rintro _ h3 ⟨rfl, m3⟩
  have E3 : Ext H.n H h3 := E2.trans (m3.ext (Nat.le_refl _))
  have hl8 : (bs.drop 8).length = bs.length - 8 := by rw [List.length_drop]
  have hs3 : IsSl RByte F h3 (subSl 1 4 (bs.drop 4).length (subSl 1 4 bs.length v)) (bs.drop 8) := by
    have s1 := hv.sub (l := 4) (r := bs.length) (by omega) (Nat.le_refl _)
    rw [List.take_length] at s1
    have := (s1.sub (l := 4) (r := (bs.drop 4).length) (by rw [List.length_drop]; omega) (Nat.le_refl _)).ext E3 (Nat.le_refl _)
    rw [List.take_length, List.drop_drop] at this
    exact this
  have A3 := m3.at_
  have hn3 : h3.n = H.n + 1 := m3.n.trans hn2
  obtain ⟨w, hw⟩ : ∃ w, w = subSl 1 4 (bs.drop 4).length (subSl 1 4 bs.length v) := ⟨_, rfl⟩
  rw [← hw] at hs3 A3
  clear hw m3
  obtain ⟨n, hn⟩ : ∃ n, n = leN (bs.take 4) := ⟨_, rfl⟩
  obtain ⟨sm, hsm⟩ : ∃ sm, sm = leN ((bs.drop 4).take 4) := ⟨_, rfl⟩
  obtain ⟨xs, hxs⟩ : ∃ xs, xs = bs.drop 8 := ⟨_, rfl⟩
  have N2 : sm < 4294967296 := by
    have := leN_lt ((bs.drop 4).take 4)
    rw [List.length_take, List.length_drop, Nat.min_eq_left (by omega), ← hsm] at this
    exact this
  have hu : unfr bs = if 524288 < n then ([], 0, 27) else if xs.length < n then ([], 0, 11) else if crcN (xs.take n) ≠ sm then ([], 0, 74) else (xs.take n, n + 8, 0) := by
    unfold unfr
    rw [if_neg c8, hn, hsm, hxs]
  rw [hu]
  rw [← hn] at N1 ⊢
  rw [← hsm]
  rw [← hxs] at hs3
  have hc2 : IntKind.u32.wrap (sm : Int) = (sm : Int) := wrap_u32 (by omega) (by omega)
  have z1 := hs3.isSl
  have z2 := hs3.lenD
  unfold cdC at A3
  have L3 := ld_at (T := tabOf Try.prog NT0) A3
  have l3 := at_lt A3
  have hcap : CapOk 1 w := by obtain ⟨L, -, -, hc, -⟩ := hs3.out; exact hc
  by_cases c1 : 524288 < n
  · have c1i : ((524288 : Int) < (n : Int)) = True := by simp only [eq_iff_iff, iff_true]; omega
    rw [if_pos c1]
    simp only [core, zrA, zrS, zrM, zrL, zrE, reduceCtorEq, zrD, ziE, ziL, ziN, hc2, c1i]
    exact ⟨E3, _, rfl, .bytesNil⟩
  have c1i : ((524288 : Int) < (n : Int)) = False := by simp only [eq_iff_iff, iff_false]; omega
  rw [show (if 524288 < n then (([] : List UInt8), 0, 27) else if xs.length < n then ([], 0, 11) else if crcN (xs.take n) ≠ sm then ([], 0, 74) else (xs.take n, n + 8, 0)) = if xs.length < n then ([], 0, 11) else if crcN (xs.take n) ≠ sm then ([], 0, 74) else (xs.take n, n + 8, 0) from if_neg c1]
  by_cases c2 : xs.length < n
  · have c2i : ((xs.length : Int) < (n : Int)) = True := by simp only [eq_iff_iff, iff_true]; omega
    rw [if_pos c2]
    simp only [core, zrA, zrS, zrM, zrL, zrE, reduceCtorEq, zrD, ziE, ziL, ziN, hc2, c1i, L3, l3, z1, z2, c2i]
    exact ⟨E3, _, rfl, .bytesNil⟩
  have c2i : ((xs.length : Int) < (n : Int)) = False := by simp only [eq_iff_iff, iff_false]; omega
  have c2j : ((n : Int) ≤ (xs.length : Int)) = True := by simp only [eq_iff_iff, iff_true]; omega
  have c0j : ((0 : Int) ≤ (n : Int)) = True := by simp only [eq_iff_iff, iff_true]; omega
  rw [show (if xs.length < n then (([] : List UInt8), 0, 11) else if crcN (xs.take n) ≠ sm then ([], 0, 74) else (xs.take n, n + 8, 0)) = if crcN (xs.take n) ≠ sm then ([], 0, 74) else (xs.take n, n + 8, 0) from if_neg c2]
  have hs4 : IsSl RByte F h3 (subSl 1 0 n w) (xs.take n) := by
    have := hs3.sub (l := 0) (r := n) (Nat.zero_le _) (by omega)
    rw [List.drop_zero] at this
    exact this
  have y1 := hs4.isSl
  simp only [core, zrA, zrS, zrM, zrL, zrE, reduceCtorEq, zrD, ziE, ziL, ziN, hc2, c1i, L3, l3, z1, z2, c2i]
  rw [WB_regionD [1, 2, 3, 4, 5, 6, 8, 0, 7, 9, 10] 1328253806317836750787915704136892416 (by kernel_rfl)]
  repeat ((with_reducible refine WDM_cons ?_; simp only [dw1]; try simp only [dw2, zrA, zrM, zrR, zrO, zrE]); simp only [core, zrA, zrS, zrM, zrL, zrE, reduceCtorEq, zrD, ziE, ziL, ziN, cored, L3, l3, z1, z2, c2j, c0j, hcap, Int.le_refl, Int.toNat_natCast])
  refine newEng_x.mono ?_
  rintro _ h4 ⟨l, hf, rfl, hh4⟩
  have E4 : Ext H.n H h4 := hh4 ▸ E3.push _ (by omega)
  have A4 : h4.at h3.n = some (.cells l 125) := hh4 ▸ at_push_n _ _
  have A3' : h4.at H.n = some (.cells [.lit (.slice none 0 0), w, .lit (.bool true)] 100) := by rw [hh4, at_push_lt _ (by omega)]; exact A3
  have hn4 : h4.n = H.n + 2 := by rw [hh4, n_push, hn3]
  have E34 : Ext h3.n h3 h4 := hh4 ▸ (Ext.refl h3.n h3).push _ (Nat.le_refl _)
  have hs5 : IsSl RByte F h4 (subSl 1 0 n w) (xs.take n) := hs4.ext E34 (Nat.le_refl _)
  have hap : apartOf h3.n (subSl 1 0 n w) = true := by
    rcases hs4.bytesRow with ⟨e, -⟩ | ⟨b, off, cap, row, e, -, h4, -, -⟩
    · rw [e]; rfl
    · have := getR_lt h4
      rw [e]
      show (!Nat.beq h3.n b) = true
      rw [show Nat.beq h3.n b = false by rw [← Bool.not_eq_true, Nat.beq_eq]; omega]
      rfl
  clear hh4
  have L4 := ld_at (T := tabOf Try.prog NT0) A3'
  have l4 := at_lt A3'
  repeat ((with_reducible refine WDM_cons ?_; simp only [dw1]; try simp only [dw2, zrA, zrM, zrR, zrO, zrE]); simp only [core, zrA, zrS, zrM, zrL, zrE, reduceCtorEq, zrD, ziE, ziL, ziN, cored, L4, l4, z1, z2, c2j, c0j, hcap, Int.le_refl, Int.toNat_natCast])
  refine crcP_c hs5.bytesOf A4 hf hap (by rw [List.length_take]; omega) ?_
  obtain ⟨h5, hh5⟩ : ∃ h5, h5 = h4.put h3.n .gone := ⟨_, rfl⟩
  have E5 : Ext H.n H h5 := hh5 ▸ E4.put _ (by omega)
  have A5 : h5.at H.n = some (.cells [.lit (.slice none 0 0), w, .lit (.bool true)] 100) := by rw [hh5, at_put_ne _ (by omega)]; exact A3'
  have hs6 : IsSl RByte F h5 (subSl 1 0 n w) (xs.take n) := hs4.ext (hh5 ▸ E34.put _ (Nat.le_refl _)) (Nat.le_refl _)
  rw [← hh5]
  have L5 := ld_at (T := tabOf Try.prog NT0) A5
  have l5 := at_lt A5
  have q1 : AV.same 8 w w = true := same_sl z1
  by_cases c3 : crcN (xs.take n) = sm
  · have c3b : (((crcN (xs.take n) : Nat) : Int) != (sm : Int)) = false := by rw [c3]; exact bne_self_eq_false _
    have hw8 : IntKind.i64.wrap ((n : Int) + 8) = ((n + 8 : Nat) : Int) := (wrap_in (by omega) (by omega)).trans (by omega)
    rw [if_neg (fun h => h c3)]
    repeat ((with_reducible refine WDM_cons ?_; simp only [dw1]; try simp only [dw2, zrA, zrM, zrR, zrO, zrE]); simp only [core, zrA, zrS, zrM, zrL, zrE, reduceCtorEq, zrD, ziE, ziL, ziN, cored, L5, l5, z1, z2, c2j, c0j, hcap, c3b, q1, Int.le_refl, Int.toNat_natCast])
    refine WOp_app (VwB.app (n0 := H.n) .nil hs6 (by rw [List.length_take]; simp; omega) E5.1) ?_
    rintro s6 h6 ⟨V6, -, E6⟩
    simp only [core, zrA, zrS, zrM, zrL, zrE, reduceCtorEq, zrD, ziE, ziL, ziN, hw8]
    exact ⟨E5.trans E6, _, rfl, V6.toSl fun b off n cap e => (V6.lt _ _ _ _ e).1⟩
  · have c3b : (((crcN (xs.take n) : Nat) : Int) != (sm : Int)) = true := by
      rw [bne_iff_ne]
      intro h
      exact c3 (by omega)
    rw [if_pos c3]
    repeat ((with_reducible refine WDM_cons ?_; simp only [dw1]; try simp only [dw2, zrA, zrM, zrR, zrO, zrE]); simp only [core, zrA, zrS, zrM, zrL, zrE, reduceCtorEq, zrD, ziE, ziL, ziN, cored, L5, l5, z1, z2, c2j, c0j, hcap, c3b, q1, Int.le_refl, Int.toNat_natCast])
    exact ⟨E5, _, rfl, .bytesNil⟩
end Go.Proofs.Ytcnbamdmngaliaa.Ex
end

section

set_option linter.unusedSimpArgs false
set_option linter.unusedVariables false
set_option maxRecDepth 10000
set_option maxHeartbeats 4000000
namespace Go.Proofs.Ytcnbamdmngaliaa.Ex
open Go
theorem unframeE_x {H : AH} {v : AV} {bs : List UInt8} {F : Nat → Prop} (hv : IsSl RByte F H v bs) (hl : bs.length ≤ 1000000000) :
    WC Try.prog (tabOf Try.prog NT0) S0 55 [v] H fun r h' => Ext H.n H h' ∧ UnfO H.n h' (unfr bs) r := by
  have hv : IsSl RByte (fun b => b < H.n) H v bs := hv.bytesF fun b off n cap e => by
    rcases hv.bytesRow with ⟨e', -⟩ | ⟨b', off', cap', row, e', -, h4, -, -⟩
    · rw [e'] at e; cases e
    · rw [e'] at e; cases e; exact getR_lt h4
  refine WC_fn Try.func55 rfl rfl ?_
  have v1 := hv.isSl
  have v2 := hv.lenD
  by_cases c8 : bs.length < 8
  · have c8i : ((bs.length : Int) < 8) = True := by simp only [eq_iff_iff, iff_true]; omega
    have hu : unfr bs = ([], 0, 11) := by unfold unfr; rw [if_pos c8]
    rw [hu]
    simp only [core, zrA, zrS, zrM, zrL, zrE, reduceCtorEq, zrD, ziE, ziL, ziN, Try.ntmps55, v1, v2, c8i]
    exact ⟨Ext.refl _ _, _, rfl, .bytesNil⟩
  have c8i : ((bs.length : Int) < 8) = False := by simp only [eq_iff_iff, iff_false]; omega
  have w1 := hv.one
  simp only [core, zrA, zrS, zrM, zrL, zrE, reduceCtorEq, zrD, ziE, ziL, ziN, Try.ntmps55, v1, v2, c8i, w1]
  obtain ⟨h1, hh1⟩ : ∃ h1, h1 = H.push (rdC v) := ⟨_, rfl⟩
  have E1 : Ext H.n H h1 := hh1 ▸ (Ext.refl _ _).push _ (Nat.le_refl _)
  have A1 : h1.at H.n = some (rdC v) := hh1 ▸ at_push_n _ _
  have hn1 : h1.n = H.n + 1 := hh1 ▸ n_push _ _
  unfold rdC at hh1
  rw [← hh1]
  clear hh1
  have hv1 := hv.ext E1 (Nat.le_refl _)
  refine (wordE_x A1 hv1 (Nat.lt_irrefl _) (by omega) hl).mono ?_
  rintro _ h2 ⟨rfl, m2⟩
  have E2 : Ext H.n H h2 := E1.trans (m2.ext (Nat.le_refl _))
  have hs2 : IsSl RByte (fun b => b < H.n) h2 (subSl 1 4 bs.length v) (bs.drop 4) := by
    have := (hv.sub (l := 4) (r := bs.length) (by omega) (Nat.le_refl _)).ext E2 (Nat.le_refl _)
    rw [List.take_length] at this
    exact this
  have hn2 : h2.n = H.n + 1 := m2.n.trans hn1
  have N1 : leN (bs.take 4) < 4294967296 := by
    have := leN_lt (bs.take 4)
    rw [List.length_take, Nat.min_eq_left (by omega)] at this
    exact this
  have hc1 : IntKind.i64.wrap ((leN (bs.take 4) : Nat) : Int) = ((leN (bs.take 4) : Nat) : Int) := wrap_in (by omega) (by omega)
  have hFc : ∀ k, H.n ≤ k → ¬ (fun b => b < H.n) k := fun k hk => Nat.not_lt.2 hk
  simp only [core, zrA, zrS, zrM, zrL, zrE, reduceCtorEq, zrD, ziE, ziL, ziN, hc1]
  refine (wordE_x m2.at_ hs2 (Nat.lt_irrefl _) (by rw [List.length_drop]; omega) (by rw [List.length_drop]; omega)).mono ?_
  rintro _ h3 ⟨rfl, m3⟩
  have E3 : Ext H.n H h3 := E2.trans (m3.ext (Nat.le_refl _))
  have hl8 : (bs.drop 8).length = bs.length - 8 := by rw [List.length_drop]
  have hs3 : IsSl RByte (fun b => b < H.n) h3 (subSl 1 4 (bs.drop 4).length (subSl 1 4 bs.length v)) (bs.drop 8) := by
    have s1 := hv.sub (l := 4) (r := bs.length) (by omega) (Nat.le_refl _)
    rw [List.take_length] at s1
    have := (s1.sub (l := 4) (r := (bs.drop 4).length) (by rw [List.length_drop]; omega) (Nat.le_refl _)).ext E3 (Nat.le_refl _)
    rw [List.take_length, List.drop_drop] at this
    exact this
  have A3 := m3.at_
  have hn3 : h3.n = H.n + 1 := m3.n.trans hn2
  obtain ⟨w, hw⟩ : ∃ w, w = subSl 1 4 (bs.drop 4).length (subSl 1 4 bs.length v) := ⟨_, rfl⟩
  rw [← hw] at hs3 A3
  clear hw m3
  obtain ⟨n, hn⟩ : ∃ n, n = leN (bs.take 4) := ⟨_, rfl⟩
  obtain ⟨sm, hsm⟩ : ∃ sm, sm = leN ((bs.drop 4).take 4) := ⟨_, rfl⟩
  obtain ⟨xs, hxs⟩ : ∃ xs, xs = bs.drop 8 := ⟨_, rfl⟩
  have N2 : sm < 4294967296 := by
    have := leN_lt ((bs.drop 4).take 4)
    rw [List.length_take, List.length_drop, Nat.min_eq_left (by omega), ← hsm] at this
    exact this
  have hu : unfr bs = if 524288 < n then ([], 0, 27) else if xs.length < n then ([], 0, 11) else if crcN (xs.take n) ≠ sm then ([], 0, 74) else (xs.take n, n + 8, 0) := by
    unfold unfr
    rw [if_neg c8, hn, hsm, hxs]
  rw [hu]
  rw [← hn] at N1 ⊢
  rw [← hsm]
  rw [← hxs] at hs3
  have hc2 : IntKind.u32.wrap (sm : Int) = (sm : Int) := wrap_u32 (by omega) (by omega)
  have z1 := hs3.isSl
  have z2 := hs3.lenD
  unfold rdC at A3
  have L3 := ld_at (T := tabOf Try.prog NT0) A3
  have l3 := at_lt A3
  have hcap : CapOk 1 w := by obtain ⟨L, -, -, hc, -⟩ := hs3.out; exact hc
  by_cases c1 : 524288 < n
  · have c1i : ((524288 : Int) < (n : Int)) = True := by simp only [eq_iff_iff, iff_true]; omega
    rw [if_pos c1]
    simp only [core, zrA, zrS, zrM, zrL, zrE, reduceCtorEq, zrD, ziE, ziL, ziN, hc2, c1i]
    exact ⟨E3, _, rfl, .bytesNil⟩
  have c1i : ((524288 : Int) < (n : Int)) = False := by simp only [eq_iff_iff, iff_false]; omega
  rw [show (if 524288 < n then (([] : List UInt8), 0, 27) else if xs.length < n then ([], 0, 11) else if crcN (xs.take n) ≠ sm then ([], 0, 74) else (xs.take n, n + 8, 0)) = if xs.length < n then ([], 0, 11) else if crcN (xs.take n) ≠ sm then ([], 0, 74) else (xs.take n, n + 8, 0) from if_neg c1]
  by_cases c2 : xs.length < n
  · have c2i : ((xs.length : Int) < (n : Int)) = True := by simp only [eq_iff_iff, iff_true]; omega
    rw [if_pos c2]
    simp only [core, zrA, zrS, zrM, zrL, zrE, reduceCtorEq, zrD, ziE, ziL, ziN, hc2, c1i, L3, l3, z1, z2, c2i]
    exact ⟨E3, _, rfl, .bytesNil⟩
  have c2i : ((xs.length : Int) < (n : Int)) = False := by simp only [eq_iff_iff, iff_false]; omega
  have c2j : ((n : Int) ≤ (xs.length : Int)) = True := by simp only [eq_iff_iff, iff_true]; omega
  have c0j : ((0 : Int) ≤ (n : Int)) = True := by simp only [eq_iff_iff, iff_true]; omega
  rw [show (if xs.length < n then (([] : List UInt8), 0, 11) else if crcN (xs.take n) ≠ sm then ([], 0, 74) else (xs.take n, n + 8, 0)) = if crcN (xs.take n) ≠ sm then ([], 0, 74) else (xs.take n, n + 8, 0) from if_neg c2]
  have hs4 : IsSl RByte (fun b => b < H.n) h3 (subSl 1 0 n w) (xs.take n) := by
    have := hs3.sub (l := 0) (r := n) (Nat.zero_le _) (by omega)
    rw [List.drop_zero] at this
    exact this
  have y1 := hs4.isSl
  have hw8 : IntKind.i64.wrap (8 + (n : Int)) = ((n + 8 : Nat) : Int) := (wrap_in (by omega) (by omega)).trans (by omega)
  simp only [core, zrA, zrS, zrM, zrL, zrE, reduceCtorEq, zrD, ziE, ziL, ziN, hc2, c1i, L3, l3, z1, z2, c2i, c2j, c0j, hcap, Int.le_refl, Int.toNat_natCast]
  obtain ⟨h4, hh4⟩ : ∃ h4, h4 = h3.push (.cells [] 5) := ⟨_, rfl⟩
  have E34 : Ext h3.n h3 h4 := hh4 ▸ (Ext.refl h3.n h3).push _ (Nat.le_refl _)
  have A4 : h4.at h3.n = some (.cells [] 5) := hh4 ▸ at_push_n _ _
  have hn4 : h4.n = h3.n + 1 := hh4 ▸ n_push _ _
  rw [← hh4]
  have hl5 : (xs.take n).length ≤ 1000000 := by rw [List.length_take]; omega
  refine WOp_app (fresh_bytes A4 (hs4.ext E34 (Nat.le_refl _)) (by omega)) ?_
  rintro s5 h5 ⟨E45, S5, -⟩
  have E5 : Ext H.n H h5 := (E3.trans (E34.mono (by omega))).trans (E45.mono (by omega))
  have A5 : h5.at H.n = some (.cells [w, .lit (.bool false)] 107) := E45.at (by omega) (E34.at (by omega) A3)
  have S5' : IsSl RByte (fun b => H.n ≤ b) h5 s5 (xs.take n) := S5.bytesF fun b off k cap e => by
    rcases S5.bytesRow with ⟨e', -⟩ | ⟨b', off', cap', row, e', hb, -⟩
    · rw [e'] at e; cases e
    · rw [e'] at e; cases e; omega
  simp only [core, zrA, zrS, zrM, zrL, zrE, reduceCtorEq, zrD, ziE, ziL, ziN]
  refine crcD_c S5.bytesOf hl5 ?_
  by_cases c3 : crcN (xs.take n) = sm
  · have c3b : (((crcN (xs.take n) : Nat) : Int) != (sm : Int)) = false := by rw [c3]; exact bne_self_eq_false _
    rw [if_neg (fun h => h c3)]
    simp only [core, zrA, zrS, zrM, zrL, zrE, reduceCtorEq, zrD, ziE, ziL, ziN, c3b, hw8]
    exact ⟨E5, _, rfl, S5'⟩
  · have c3b : (((crcN (xs.take n) : Nat) : Int) != (sm : Int)) = true := by
      rw [bne_iff_ne]
      intro h
      exact c3 (by omega)
    rw [if_pos c3]
    simp only [core, zrA, zrS, zrM, zrL, zrE, reduceCtorEq, zrD, ziE, ziL, ziN, c3b]
    exact ⟨E5, _, rfl, .bytesNil⟩
end Go.Proofs.Ytcnbamdmngaliaa.Ex
end

section

set_option linter.unusedSimpArgs false
set_option linter.unusedVariables false
set_option maxRecDepth 10000
set_option maxHeartbeats 4000000
namespace Go.Proofs.Ytcnbamdmngaliaa.Ex
open Go
def RRec : Rep (Int × List UInt8) := RPair RInt (RSl RByte)
theorem RRec_is {F : Nat → Prop} {h : AH} {c : List AV} {x : Int × List UInt8} : RRec.is F h c x ↔ ∃ vb, c = [.lit (.int .i64 x.1), vb] ∧ IsSl RByte F h vb x.2 ∧ I64 x.1 := by
  constructor
  · rintro ⟨c1, c2, rfl, ⟨rfl, h1⟩, h2⟩
    obtain ⟨v, rfl, h3⟩ := RSl_is.1 h2
    exact ⟨v, rfl, h3, h1⟩
  · rintro ⟨vb, rfl, h1, h2⟩
    exact ⟨_, _, rfl, ⟨rfl, h2⟩, RSl_is.2 ⟨vb, rfl, h1⟩⟩
theorem RRec_z : RRec.z = 2 := rfl
theorem stp_count {at0 a : Int} {bs r : List UInt8} {l : RecL} (h : Stp at0 bs l a r) : l.length * 8 + r.length ≤ bs.length := by
  induction h with
  | nil => simp
  | snoc h hu ih =>
    obtain ⟨-, h2, -, h4, -⟩ := unfr_out hu
    rw [List.length_drop, List.length_append, List.length_singleton]
    omega
theorem stp_item {at0 a : Int} {bs r : List UInt8} {l : RecL} (h : Stp at0 bs l a r) : ∀ x ∈ l, at0 ≤ x.1 ∧ x.1 + 8 + x.2.length ≤ a ∧ x.2.length ≤ bs.length := by
  induction h with
  | nil => simp
  | snoc h hu ih =>
    rename_i l a r c n
    obtain ⟨-, h2, -, h4, h5, -⟩ := unfr_out hu
    have hl := h.len
    have hc : c.length ≤ n - 8 := by rw [h5, List.length_take]; omega
    intro x hx
    rw [List.mem_append, List.mem_singleton] at hx
    rcases hx with hx | rfl
    · have := ih x hx
      omega
    · simp only
      omega
def kjC (e : Nat) (torn : Int) : AB := .cells [.ptr e 0, .lit (.int .i64 torn)] 60
abbrev OwnR (n0 : Nat) (h : AH) (v : AV) (e : TypeId) (l : RecL) : Prop := OwnL RRec (fun b => n0 ≤ b) n0 h v e l
theorem recordsE_x {H : AH} {k d : Nat} {size base synced limit torn : Int} {v : AV} {bs : List UInt8} {F : Nat → Prop} (hk : H.at k = some (kjC d torn)) (hd : H.at d = some (ekC size base v synced limit)) (hb : 0 ≤ base ∧ base ≤ 4611686018427387904)
    (hv : IsSl RByte F H v bs) (hl : bs.length ≤ 67108864) :
    WC Try.prog (tabOf Try.prog NT0) S0 36 [.ptr k 0] H fun r h' => Ext H.n H h' ∧ ∃ l a rest vl, Full base bs l a rest ∧ r = .tup [vl, .lit (.int .i64 a)] ∧ OwnR H.n h' vl 75 l := by
  refine WC_fn Try.func36 rfl rfl ?_
  have hk' := hk
  have hd' := hd
  unfold kjC at hk
  unfold ekC at hd
  have K1 := ld_at (T := tabOf Try.prog NT0) hk
  have k1 := at_lt hk
  have L := ld_at (T := tabOf Try.prog NT0) hd
  have l := at_lt hd
  have v1 := hv.isSl
  have v2 := hv.lenD
  have hw1 : IntKind.i64.wrap (base + (bs.length : Int) - base) = bs.length := (wrap_in (by omega) (by omega)).trans (by omega)
  simp only [core, zrA, zrS, zrM, zrL, zrE, reduceCtorEq, zrD, ziE, ziL, ziN, Try.ntmps36, K1, k1, L, l]
  rw [WB_regionD [0, 1, 2, 3, 4, 5, 6, 7, 8, 10, 9, 11, 12, 13, 14, 15, 16, 17] 17087782212886363615231666077871662056054117340225924585331863844759038901643627831103114193403904 (by kernel_rfl)]
  repeat ((with_reducible refine WDM_cons ?_; simp only [dw1]; try simp only [dw2, zrA, zrM, zrR, zrO, zrE]); simp only [core, zrA, zrS, zrM, zrL, zrE, reduceCtorEq, zrD, ziE, ziL, ziN, cored, K1, k1])
  refine (endE_x hd' v1 v2 hb (by omega)).mono ?_
  rintro _ h1 ⟨e1, rfl⟩
  replace e1 := e1.symm
  subst e1
  repeat ((with_reducible refine WDM_cons ?_; simp only [dw1]; try simp only [dw2, zrA, zrM, zrR, zrO, zrE]); simp only [core, zrA, zrS, zrM, zrL, zrE, reduceCtorEq, zrD, ziE, ziL, ziN, cored, K1, k1, hw1])
  refine (readE_x hd' hb hv hl (by omega) (by omega)).mono ?_
  rintro _ h1 ⟨E1, w, rfl, S1⟩
  rw [Int.sub_self, show (0 : Int).toNat = 0 from rfl, List.drop_zero, Int.toNat_natCast, List.take_length] at S1
  have hk1 := E1.at k1 hk
  have K2 := ld_at (T := tabOf Try.prog NT0) hk1
  have k2 := at_lt hk1
  repeat ((with_reducible refine WDM_cons ?_; simp only [dw1]; try simp only [dw2, zrA, zrM, zrR, zrO, zrE]); simp only [core, zrA, zrS, zrM, zrL, zrE, reduceCtorEq, zrD, ziE, ziL, ziN, cored, K2, k2, same_one])
  refine WB_ind (fun (q : RecL × Int × List UInt8) t h => (∃ s u, Ext H.n H h ∧ Stp base bs q.1 q.2.1 q.2.2 ∧ OwnR H.n h s 75 q.1 ∧ IsSl RByte (fun b => H.n ≤ b ∧ Apart s b) h u q.2.2 ∧ t.get 7 = s ∧ t.get 5 = u) ∧ t.n = 56 ∧ t.get 0 = .ptr k 0 ∧ t.get 4 = .lit (.int .i64 q.2.1)) (fun q => q.2.2.length) ?_ ([], base, bs) _ _ ?_
  · rintro ⟨l, a, rest⟩ t h ⟨⟨s, u, E, hst, ho, hu, gA, gB⟩, hn, g0, g4⟩ ih
    dsimp only at *
    have hcnt := stp_count hst
    have hle := hst.len
    have u1 := hu.isSl
    have u2 := hu.lenD
    have hcap : CapOk 1 u := by obtain ⟨L, -, -, hc, -⟩ := hu.out; exact hc
    have s1 := ho.isSl
    simp only [core, zrA, zrS, zrM, zrL, zrE, reduceCtorEq, zrD, ziE, ziL, ziN, hn, g0, g4, gA, gB]
    refine (unframeE_x hu (by omega)).mono ?_
    rintro _ h2 ⟨E2, c, rfl, hc⟩
    have hEn := E.1
    have E' := E.trans (E2.mono hEn)
    obtain ⟨⟨cs, n, e⟩, huf⟩ : ∃ y, y = unfr rest := ⟨_, rfl⟩
    rw [← huf] at hc ⊢
    dsimp only at hc ⊢
    by_cases ce : e = 0
    · subst ce
      obtain ⟨y1, y2, y3, y4, y5, y6⟩ := unfr_out huf.symm
      have ce : (((0 : Nat) : Int) != 0) = false := by decide
      have cc1 := hc.cells
      have cc2 := hc.one
      have hwn : IntKind.i64.wrap (a + (n : Int)) = a + n := wrap_in (by omega) (by omega)
      have j1 : ((0 : Int) ≤ (n : Int)) = True := by simp only [eq_iff_iff, iff_true]; omega
      have j2 : ((n : Int) ≤ (rest.length : Int)) = True := by simp only [eq_iff_iff, iff_true]; omega
      simp only [core, zrA, zrS, zrM, zrL, zrE, reduceCtorEq, zrD, ziE, ziL, ziN, hn, g0, g4, gA, gB, ce, cc1, cc2]
      obtain ⟨h3, hh3⟩ : ∃ h3, h3 = h2.push (.cells [.lit (.int .i64 a), c] 75) := ⟨_, rfl⟩
      have E3 : Ext h2.n h2 h3 := hh3 ▸ (Ext.refl _ _).push _ (Nat.le_refl _)
      have A3 : h3.at h2.n = some (.cells [.lit (.int .i64 a), c] 75) := hh3 ▸ at_push_n _ _
      rw [← hh3]
      have e2n := E2.1
      have e3n := E3.1
      have ho3 := (ho.ext E2 (Nat.le_refl _)).ext E3 (Nat.le_refl _)
      refine WOp_app (ho3.snoc (y := (a, cs)) (by kernel_rfl) (by kernel_rfl) (by kernel_rfl) (zv := .agg [.lit (.int .i64 0), .lit (.slice none 0 0)]) (by kernel_rfl) (by' := 32) (by kernel_rfl) rfl (by decide) (by decide) A3 (RRec_is.2 ⟨c, rfl, (hc.ext E3 (Nat.le_refl _)).lift fun b hb hlt => ⟨rfl, Nat.le_trans hEn hb, ho.apart hb⟩, by unfold I64; dsimp only; omega⟩) (by omega) (by omega) (by omega)) ?_
      rintro s4 h4 ⟨ho4, e4, f4⟩
      have v4 := ho4.isSl
      simp only [core, zrA, zrS, zrM, zrL, zrE, reduceCtorEq, zrD, ziE, ziL, ziN, hn, g0, g4, gA, gB, ce, cc1, cc2, u1, u2, hwn, j1, j2, hcap, Int.le_refl, Int.toNat_natCast]
      have E34 : Ext H.n h h4 := ((E2.trans (E3.mono (by omega))).mono hEn).trans e4
      have hsub : IsSl RByte (fun b => H.n ≤ b ∧ Apart s b) h (subSl 1 n rest.length u) (rest.drop n) := by
        have := hu.sub (l := n) (r := rest.length) y4 (Nat.le_refl _)
        rw [List.take_length] at this
        exact this
      refine ih (l ++ [(a, cs)], a + n, rest.drop n) _ _ ⟨⟨s4, subSl 1 n rest.length u, E.trans E34, hst.snoc huf.symm, ho4, hsub.lift fun b hb hlt => ?_, ?_, ?_⟩, ?_⟩ ?_
      · obtain ⟨q1, q2⟩ := f4 b (by omega) hb.2
        exact ⟨q1.trans ((E3.2 b (by omega)).trans (E2.2 b hlt)), hb.1, q2⟩
      · simp only [core, zrA, zrS, zrM, zrL, zrE, reduceCtorEq, zrD, ziE, ziL, ziN, hn, g0, g4]
      · simp only [core, zrA, zrS, zrM, zrL, zrE, reduceCtorEq, zrD, ziE, ziL, ziN, hn, g0, g4]
      · simp only [core, zrA, zrS, zrM, zrL, zrE, reduceCtorEq, zrD, ziE, ziL, ziN, hn, g0, g4]
      · dsimp only
        rw [List.length_drop]
        omega
    · have ce2 : ((e : Int) != 0) = true := by rw [bne_iff_ne]; omega
      simp only [core, zrA, zrS, zrM, zrL, zrE, reduceCtorEq, zrD, ziE, ziL, ziN, hn, g0, g4, gA, gB, ce2]
      exact ⟨E', l, a, rest, s, ⟨hst, by rw [← huf]; exact ce⟩, rfl, ho.ext E2 (Nat.le_refl _)⟩
  · simp only [core, zrA, zrS, zrM, zrL, zrE, reduceCtorEq, zrD, ziE, ziL, ziN]
    exact ⟨_, _, E1, .nil, .nil, S1.lift fun b hb hlt => ⟨rfl, hb, fun off n cap e => by cases e⟩, rfl, rfl⟩
end Go.Proofs.Ytcnbamdmngaliaa.Ex
end

section

set_option linter.unusedSimpArgs false
set_option linter.unusedVariables false
set_option maxRecDepth 10000
set_option maxHeartbeats 4000000
namespace Go.Proofs.Ytcnbamdmngaliaa.Ex
open Go
/-- A journal: its disk, its records, how much was torn. -/
def jnC (d : Nat) (vl : AV) (torn : Int) : AB := .cells [.ptr d 0, vl, .lit (.int .i64 torn)] 63
theorem is_x {H : AH} {j d : Nat} {torn : Int} {vl : AV} (hj : H.at j = some (jnC d vl torn)) :
    WC Try.prog (tabOf Try.prog NT0) S0 29 [.ptr j 0] H fun r h' => h' = H ∧ r = .lit (.bool true) := by
  refine WC_fn Try.func29 rfl rfl ?_
  unfold jnC at hj
  have L := ld_at (T := tabOf Try.prog NT0) hj
  have l := at_lt hj
  simp only [core, zrA, zrS, zrM, zrL, zrE, reduceCtorEq, zrD, ziE, ziL, ziN, Try.ntmps29, L, l, aundef]
theorem first_x {H : AH} {j d : Nat} {torn : Int} {vl : AV} (hj : H.at j = some (jnC d vl torn)) {size base synced limit : Int} {v : AV} (hd : H.at d = some (dkC size base v synced limit)) (h0 : 0 < size) :
    WC Try.prog (tabOf Try.prog NT0) S0 47 [.ptr j 0] H fun r h' => h' = H ∧ r = .lit (.int .i64 base) := by
  refine WC_fn Try.func47 rfl rfl ?_
  have hj' := hj
  unfold jnC at hj
  have L := ld_at (T := tabOf Try.prog NT0) hj
  have l := at_lt hj
  simp only [core, zrA, zrS, zrM, zrL, zrE, reduceCtorEq, zrD, ziE, ziL, ziN, Try.ntmps47]
  refine (is_x hj').mono ?_
  rintro _ h1 ⟨e1, rfl⟩
  replace e1 := e1.symm
  subst e1
  simp only [core, zrA, zrS, zrM, zrL, zrE, reduceCtorEq, zrD, ziE, ziL, ziN, L, l]
  refine (base_x hd h0).mono ?_
  rintro _ h1 ⟨e1, rfl⟩
  replace e1 := e1.symm
  subst e1
  simp only [core, zrA, zrS, zrM, zrL, zrE, reduceCtorEq, zrD, ziE, ziL, ziN]
theorem endJ_x {H : AH} {j d : Nat} {torn : Int} {vl : AV} (hj : H.at j = some (jnC d vl torn)) {size base synced limit : Int} {v : AV} (hd : H.at d = some (dkC size base v synced limit)) (h0 : 0 < size) {n : Nat} (hv : isSl v = true) (hn : lenD v = n) (hb : 0 ≤ base ∧ base ≤ 4611686018427387904) (hl : n ≤ 1000000000) :
    WC Try.prog (tabOf Try.prog NT0) S0 43 [.ptr j 0] H fun r h' => h' = H ∧ r = .lit (.int .i64 (base + n)) := by
  refine WC_fn Try.func43 rfl rfl ?_
  have hj' := hj
  unfold jnC at hj
  have L := ld_at (T := tabOf Try.prog NT0) hj
  have l := at_lt hj
  simp only [core, zrA, zrS, zrM, zrL, zrE, reduceCtorEq, zrD, ziE, ziL, ziN, Try.ntmps43]
  refine (is_x hj').mono ?_
  rintro _ h1 ⟨e1, rfl⟩
  replace e1 := e1.symm
  subst e1
  simp only [core, zrA, zrS, zrM, zrL, zrE, reduceCtorEq, zrD, ziE, ziL, ziN, L, l]
  refine (end_x hd h0 hv hn hb hl).mono ?_
  rintro _ h1 ⟨e1, rfl⟩
  replace e1 := e1.symm
  subst e1
  simp only [core, zrA, zrS, zrM, zrL, zrE, reduceCtorEq, zrD, ziE, ziL, ziN]
theorem syncedJ_x {H : AH} {j d : Nat} {torn : Int} {vl : AV} (hj : H.at j = some (jnC d vl torn)) {size base synced limit : Int} {v : AV} (hd : H.at d = some (dkC size base v synced limit)) (h0 : 0 < size) :
    WC Try.prog (tabOf Try.prog NT0) S0 44 [.ptr j 0] H fun r h' => h' = H ∧ r = .lit (.int .i64 synced) := by
  refine WC_fn Try.func44 rfl rfl ?_
  have hj' := hj
  unfold jnC at hj
  have L := ld_at (T := tabOf Try.prog NT0) hj
  have l := at_lt hj
  simp only [core, zrA, zrS, zrM, zrL, zrE, reduceCtorEq, zrD, ziE, ziL, ziN, Try.ntmps44]
  refine (is_x hj').mono ?_
  rintro _ h1 ⟨e1, rfl⟩
  replace e1 := e1.symm
  subst e1
  simp only [core, zrA, zrS, zrM, zrL, zrE, reduceCtorEq, zrD, ziE, ziL, ziN, L, l]
  refine (synced_x hd h0).mono ?_
  rintro _ h1 ⟨e1, rfl⟩
  replace e1 := e1.symm
  subst e1
  simp only [core, zrA, zrS, zrM, zrL, zrE, reduceCtorEq, zrD, ziE, ziL, ziN]
theorem count_x {H : AH} {j d : Nat} {torn : Int} {vl : AV} (hj : H.at j = some (jnC d vl torn)) {n : Nat} (hv : isSl vl = true) (hn : lenD vl = n) :
    WC Try.prog (tabOf Try.prog NT0) S0 22 [.ptr j 0] H fun r h' => h' = H ∧ r = .lit (.int .i64 (n : Int)) := by
  refine WC_fn Try.func22 rfl rfl ?_
  have hj' := hj
  unfold jnC at hj
  have L := ld_at (T := tabOf Try.prog NT0) hj
  have l := at_lt hj
  simp only [core, zrA, zrS, zrM, zrL, zrE, reduceCtorEq, zrD, ziE, ziL, ziN, Try.ntmps22]
  refine (is_x hj').mono ?_
  rintro _ h1 ⟨e1, rfl⟩
  replace e1 := e1.symm
  subst e1
  simp only [core, zrA, zrS, zrM, zrL, zrE, reduceCtorEq, zrD, ziE, ziL, ziN, L, l, hv, hn]
theorem torn_x {H : AH} {j d : Nat} {torn : Int} {vl : AV} (hj : H.at j = some (jnC d vl torn)) :
    WC Try.prog (tabOf Try.prog NT0) S0 14 [.ptr j 0] H fun r h' => h' = H ∧ r = .lit (.int .i64 torn) := by
  refine WC_fn Try.func14 rfl rfl ?_
  have hj' := hj
  unfold jnC at hj
  have L := ld_at (T := tabOf Try.prog NT0) hj
  have l := at_lt hj
  simp only [core, zrA, zrS, zrM, zrL, zrE, reduceCtorEq, zrD, ziE, ziL, ziN, Try.ntmps14]
  refine (is_x hj').mono ?_
  rintro _ h1 ⟨e1, rfl⟩
  replace e1 := e1.symm
  subst e1
  simp only [core, zrA, zrS, zrM, zrL, zrE, reduceCtorEq, zrD, ziE, ziL, ziN, L, l]
theorem syncJ_x {H : AH} {j d n : Nat} {torn size base synced limit : Int} {v vl : AV} (hj : H.at j = some (jnC d vl torn)) (hd : H.at d = some (dkC size base v synced limit)) (h0 : 0 < size) (hv : isSl v = true) (hn : lenD v = n) (hb : 0 ≤ base ∧ base ≤ 4611686018427387904) (hl : n ≤ 1000000000) :
    WC Try.prog (tabOf Try.prog NT0) S0 19 [.ptr j 0] H fun r h' => r = .lit (.int .i64 0) ∧ Mod d (dkC size base v (if 0 ≤ limit ∧ limit < base + n then synced else base + n) limit) H h' := by
  refine WC_fn Try.func19 rfl rfl ?_
  have hj' := hj
  unfold jnC at hj
  have L := ld_at (T := tabOf Try.prog NT0) hj
  have l := at_lt hj
  simp only [core, zrA, zrS, zrM, zrL, zrE, reduceCtorEq, zrD, ziE, ziL, ziN, Try.ntmps19]
  refine (is_x hj').mono ?_
  rintro _ h1 ⟨e1, rfl⟩
  replace e1 := e1.symm
  subst e1
  simp only [core, zrA, zrS, zrM, zrL, zrE, reduceCtorEq, zrD, ziE, ziL, ziN, L, l]
  refine (sync_x hd h0 hv hn hb hl).mono ?_
  rintro _ h1 ⟨rfl, m⟩
  simp only [core, zrA, zrS, zrM, zrL, zrE, reduceCtorEq, zrD, ziE, ziL, ziN]
  exact m
end Go.Proofs.Ytcnbamdmngaliaa.Ex
end

section

set_option linter.unusedSimpArgs false
set_option linter.unusedVariables false
set_option maxRecDepth 10000
set_option maxHeartbeats 4000000
namespace Go.Proofs.Ytcnbamdmngaliaa.Ex
open Go
/-- The record that starts at a place. -/
def rdR (at_ : Int) : RecL → List UInt8 × Int
  | [] => ([], 2)
  | x :: l => if x.1 = at_ then (x.2, 0) else rdR at_ l
theorem rdR_drop {at_ : Int} {l : RecL} {i : Nat} {x : Int × List UInt8} (hx : l[i]? = some x) : rdR at_ (l.drop i) = if x.1 = at_ then (x.2, 0) else rdR at_ (l.drop (i + 1)) := by
  obtain ⟨hlt, e⟩ := List.getElem?_eq_some_iff.1 hx
  rw [List.drop_eq_getElem_cons hlt, e]
  rfl
theorem readJ_x {H : AH} {j d : Nat} {torn at_ : Int} {vl : AV} {l : RecL} {F : Nat → Prop} (hj : H.at j = some (jnC d vl torn)) (hv : IsSl RRec F H vl l) (hl : l.length ≤ 100000000) (hb : ∀ x ∈ l, x.2.length ≤ 100000000) :
    WC Try.prog (tabOf Try.prog NT0) S0 33 [.ptr j 0, .lit (.int .i64 at_)] H fun r h' => Ext H.n H h' ∧ ∃ v', r = .tup [v', .lit (.int .i64 (rdR at_ l).2)] ∧ OwnB H.n h' v' (rdR at_ l).1 := by
  refine WC_fn Try.func33 rfl rfl ?_
  have hj' := hj
  unfold jnC at hj
  have L := ld_at (T := tabOf Try.prog NT0) hj
  have lj := at_lt hj
  have s1 := hv.isSl
  have s2 := hv.lenD
  simp only [core, zrA, zrS, zrM, zrL, zrE, reduceCtorEq, zrD, ziE, ziL, ziN, Try.ntmps33]
  refine (is_x hj').mono ?_
  rintro _ h1 ⟨e1, rfl⟩
  replace e1 := e1.symm
  subst e1
  simp only [core, zrA, zrS, zrM, zrL, zrE, reduceCtorEq, zrD, ziE, ziL, ziN, L, lj, s1, s2]
  refine WB_for l.length (fun i t h => Ext H.n H h ∧ rdR at_ l = rdR at_ (l.drop i) ∧ t.n = 28 ∧ t.get 1 = .lit (.int .i64 at_) ∧ t.get 14 = vl ∧ t.get 15 = .lit (.int .i64 l.length) ∧ t.get 16 = .lit (.int .i64 i)) ?_ ?_ _ _ ?_
  · rintro i t h hlt hc ⟨he, hf, hn, g1, g14, g15, g16⟩ ih
    obtain ⟨x, hx⟩ : ∃ x, l[i]? = some x := ⟨_, List.getElem?_eq_getElem hlt⟩
    obtain ⟨c, hc1, hld, hld0⟩ := hv.atE (T := tabOf Try.prog NT0) he RRec_z hx
    obtain ⟨vb, rfl, hvb, hx0⟩ := RRec_is.1 hc1
    have hws := wrap_succ hlt (by omega)
    rw [rdR_drop hx] at hf
    have b1 := hvb.isSl
    have b2 := hvb.one
    have b3 := hvb.cells
    by_cases ce : x.1 = at_
    · rw [if_pos ce] at hf
      rw [hf]
      have ceb : (x.1 == at_) = true := by rw [beq_iff_eq]; exact ce
      simp only [core, zrA, zrS, zrM, zrL, zrE, reduceCtorEq, zrD, ziE, ziL, ziN, s1, s2, hn, g1, g14, g15, g16, hlt, hc, hld, hld0, hws, b1, b2, b3, ceb]
      have he2 : Ext H.n H (h.push (.cells [.lit (.int .i64 x.1), vb] 84)) := he.push _ he.1
      refine WOp_app (OwnB.app (n0 := H.n) .nil (hvb.ext he2 (Nat.le_refl _)) (by have := hb x (List.mem_of_getElem? hx); simp only [List.length_nil]; omega) he2.1) ?_
      rintro s' h' ⟨o, E⟩
      simp only [core, zrA, zrS, zrM, zrL, zrE, reduceCtorEq, zrD, ziE, ziL, ziN, hn, g1, g14, g15, g16]
      exact ⟨he2.trans E, _, rfl, o⟩
    · rw [if_neg ce] at hf
      have ceb : (x.1 == at_) = false := by rw [beq_eq_false_iff_ne]; exact ce
      simp only [core, zrA, zrS, zrM, zrL, zrE, reduceCtorEq, zrD, ziE, ziL, ziN, s1, s2, hn, g1, g14, g15, g16, hlt, hc, hld, hld0, hws, b1, b2, b3, ceb]
      refine ih _ _ ⟨he.push _ he.1, hf, ?_⟩
      simp only [core, zrA, zrS, zrM, zrL, zrE, reduceCtorEq, zrD, ziE, ziL, ziN, hn, g1, g14, g15, g16]
  · rintro t h hc ⟨he, hf, hn, g1, g14, g15, g16⟩
    rw [List.drop_length] at hf
    rw [hf]
    simp only [core, zrA, zrS, zrM, zrL, zrE, reduceCtorEq, zrD, ziE, ziL, ziN, s1, s2, hn, g1, g14, g15, g16, hc]
    exact ⟨he, _, rfl, .nil⟩
  · refine ⟨Ext.refl _ _, rfl, ?_⟩
    simp only [core, zrA, zrS, zrM, zrL, zrE, reduceCtorEq, zrD, ziE, ziL, ziN]
    try ((repeat' apply And.intro) <;> first | rfl | trivial)
theorem OwnR.sl {n0 : Nat} {h : AH} {v : AV} {e : TypeId} {l : RecL} (ho : OwnR n0 h v e l) : IsSl RRec (fun b => n0 ≤ b) h v l := ho.toSl (fun b h => h) (fun b h => h)
theorem readK_x {H : AH} {k d : Nat} {size base synced limit torn at_ : Int} {v : AV} {bs : List UInt8} {F : Nat → Prop} (hk : H.at k = some (kjC d torn)) (hd : H.at d = some (ekC size base v synced limit)) (hb : 0 ≤ base ∧ base ≤ 4611686018427387904)
    (hv : IsSl RByte F H v bs) (hl : bs.length ≤ 67108864) {l : RecL} {a : Int} {rest : List UInt8} (hf : Full base bs l a rest) :
    WC Try.prog (tabOf Try.prog NT0) S0 34 [.ptr k 0, .lit (.int .i64 at_)] H fun r h' => Ext H.n H h' ∧ ∃ v', r = .tup [v', .lit (.int .i64 (rdR at_ l).2)] ∧ IsSl RByte (fun b => H.n ≤ b) h' v' (rdR at_ l).1 := by
  refine WC_fn Try.func34 rfl rfl ?_
  simp only [core, zrA, zrS, zrM, zrL, zrE, reduceCtorEq, zrD, ziE, ziL, ziN, Try.ntmps34]
  refine (recordsE_x hk hd hb hv hl).mono ?_
  rintro _ h1 ⟨E1, l', a', rest', vl, hf', rfl, ho⟩
  obtain ⟨rfl, rfl, rfl⟩ := Full.uniq l l' hf hf'
  have hR := OwnR.sl ho
  have hcnt := stp_count hf.1
  have s1 := hR.isSl
  have s2 := hR.lenD
  simp only [core, zrA, zrS, zrM, zrL, zrE, reduceCtorEq, zrD, ziE, ziL, ziN, s1, s2]
  refine WB_for l.length (fun i t h => Ext h1.n h1 h ∧ rdR at_ l = rdR at_ (l.drop i) ∧ t.n = 28 ∧ t.get 1 = .lit (.int .i64 at_) ∧ t.get 15 = vl ∧ t.get 16 = .lit (.int .i64 l.length) ∧ t.get 17 = .lit (.int .i64 i)) ?_ ?_ _ _ ?_
  · rintro i t h hlt hc ⟨he, hf, hn, g1, g15, g16, g17⟩ ih
    obtain ⟨x, hx⟩ : ∃ x, l[i]? = some x := ⟨_, List.getElem?_eq_getElem hlt⟩
    obtain ⟨c, hc1, hld, hld0⟩ := hR.atE (T := tabOf Try.prog NT0) he RRec_z hx
    obtain ⟨vb, rfl, hvb, hx0⟩ := RRec_is.1 hc1
    have hws := wrap_succ hlt (by omega)
    rw [rdR_drop hx] at hf
    have b1 := hvb.isSl
    have b2 := hvb.one
    have b3 := hvb.cells
    by_cases ce : x.1 = at_
    · rw [if_pos ce] at hf
      rw [hf]
      have ceb : (x.1 == at_) = true := by rw [beq_iff_eq]; exact ce
      simp only [core, zrA, zrS, zrM, zrL, zrE, reduceCtorEq, zrD, ziE, ziL, ziN, s1, s2, hn, g1, g15, g16, g17, hlt, hc, hld, hld0, hws, b1, b2, b3, ceb]
      have he2 : Ext h1.n h1 (h.push (.cells [.lit (.int .i64 x.1), vb] 75)) := he.push _ he.1
      exact ⟨E1.trans (he2.mono E1.1), _, rfl, hvb.ext he2 (Nat.le_refl _)⟩
    · rw [if_neg ce] at hf
      have ceb : (x.1 == at_) = false := by rw [beq_eq_false_iff_ne]; exact ce
      simp only [core, zrA, zrS, zrM, zrL, zrE, reduceCtorEq, zrD, ziE, ziL, ziN, s1, s2, hn, g1, g15, g16, g17, hlt, hc, hld, hld0, hws, b1, b2, b3, ceb]
      refine ih _ _ ⟨he.push _ he.1, hf, ?_⟩
      simp only [core, zrA, zrS, zrM, zrL, zrE, reduceCtorEq, zrD, ziE, ziL, ziN, hn, g1, g15, g16, g17]
  · rintro t h hc ⟨he, hf, hn, g1, g15, g16, g17⟩
    rw [List.drop_length] at hf
    rw [hf]
    simp only [core, zrA, zrS, zrM, zrL, zrE, reduceCtorEq, zrD, ziE, ziL, ziN, s1, s2, hn, g1, g15, g16, g17, hc]
    exact ⟨E1.trans (he.mono E1.1), _, rfl, .bytesNil⟩
  · refine ⟨Ext.refl _ _, rfl, ?_⟩
    simp only [core, zrA, zrS, zrM, zrL, zrE, reduceCtorEq, zrD, ziE, ziL, ziN]
    try ((repeat' apply And.intro) <;> first | rfl | trivial)
end Go.Proofs.Ytcnbamdmngaliaa.Ex
end

section

set_option linter.unusedSimpArgs false
set_option linter.unusedVariables false
set_option maxRecDepth 10000
set_option maxHeartbeats 4000000
namespace Go.Proofs.Ytcnbamdmngaliaa.Ex
open Go
/-- What the numbers of a disk keep. -/
structure DOk (size base : Int) (bs : List UInt8) (synced limit : Int) : Prop where
  s : 0 < size ∧ size ≤ 67108864
  b : 0 ≤ base ∧ base ≤ 4611686018427387904
  l : (bs.length : Int) ≤ size
  y : base ≤ synced ∧ synced ≤ base + bs.length
  m : limit < 0 ∨ synced ≤ limit
structure PS (X : Nat → Prop) (h : AH) (j d : Nat) (size base synced limit torn : Int) (bs : List UInt8) (l : RecL) : Prop where
  e : ∃ v vl, h.at d = some (dkC size base v synced limit) ∧ h.at j = some (jnC d vl torn) ∧ VwB 0 h v bs ∧ SlF X v ∧ SlF X vl ∧ OwnL RRec (fun b => X b ∧ b ≠ d ∧ b ≠ j ∧ Apart v b) 0 h vl 84 l
  d : X d
  j : X j
  lt : ∀ b, X b → b < h.n
/-- What a step changes: the blocks of X; X' are the old ones and new ones. -/
structure Nx (X X' : Nat → Prop) (H h' : AH) : Prop where
  n : H.n ≤ h'.n
  k : ∀ b, b < H.n → ¬ X b → h'.at b = H.at b
  x : ∀ b, X' b → X b ∨ H.n ≤ b
theorem Nx.refl {X : Nat → Prop} {H : AH} : Nx X X H H := ⟨Nat.le_refl _, fun _ _ _ => rfl, fun b h => .inl h⟩
theorem Nx.ext {X : Nat → Prop} {H h : AH} (e : Ext H.n H h) : Nx X X H h := ⟨e.1, fun b hb _ => e.2 b hb, fun b h => .inl h⟩
theorem Nx.trans {X Y Z : Nat → Prop} {H h1 h2 : AH} (a : Nx X Y H h1) (b : Nx Y Z h1 h2) : Nx X Z H h2 := by
  refine ⟨Nat.le_trans a.n b.n, fun k hk hX => ?_, fun k hk => ?_⟩
  · have hY : ¬ Y k := fun hY => (a.x k hY).elim hX (fun h => by omega)
    exact (b.k k (Nat.lt_of_lt_of_le hk a.n) hY).trans (a.k k hk hX)
  · rcases b.x k hk with h | h
    · exact a.x k h
    · exact .inr (Nat.le_trans a.n h)
theorem own_at {α : Type} {R : Rep α} {G : Nat → Prop} {n0 : Nat} {h : AH} {v : AV} {e : TypeId} {xs : List α} (ho : OwnL R G n0 h v e xs) {b off n : Nat} {cap : Cap} (hv : v = .sl b off n cap) : ∃ row, h.at b = some (.cells row e) := by
  obtain ⟨L, h1, h2⟩ := ho
  rcases h1.2 with ⟨hh, _⟩ | ⟨p, hh, hp, hat⟩
  · rw [hh] at hv; cases hv
  · rw [hh] at hv; cases hv; exact ⟨_, hat⟩
theorem ownl_mono {α : Type} {R : Rep α} {G G' : Nat → Prop} {n0 : Nat} {h : AH} {v : AV} {e : TypeId} {xs : List α} (ho : OwnL R G n0 h v e xs) (hG : ∀ k, G k → k < h.n → G' k) : OwnL R G' n0 h v e xs := by
  obtain ⟨L, h1, h2⟩ := ho
  exact ⟨L, h1, h2.lift fun b hb hlt => ⟨rfl, hG b hb.1 hlt, hb.2⟩⟩
theorem ownl_keep {α : Type} {R : Rep α} {G G' : Nat → Prop} {n0 : Nat} {h h' : AH} {v : AV} {e : TypeId} {xs : List α} (ho : OwnL R G n0 h v e xs) (hv : ∀ b off n cap, v = .sl b off n cap → h'.at b = h.at b) (hG : ∀ k, G k → k < h.n → h'.at k = h.at k ∧ G' k) : OwnL R G' n0 h' v e xs := by
  obtain ⟨L, h1, h2⟩ := ho
  refine ⟨L, ⟨h1.1, ?_⟩, h2.lift fun b hb hlt => ⟨(hG b hb.1 hlt).1, (hG b hb.1 hlt).2, hb.2⟩⟩
  rcases h1.2 with hh | ⟨p, rfl, hp, hat⟩
  · exact .inl hh
  · exact .inr ⟨p, rfl, hp, (hv _ _ _ _ rfl).trans hat⟩
theorem Chg.slF {l : List Nat} {v v' : AV} {H h' : AH} {X : Nat → Prop} (c : Chg l v v' H h') (hv : SlF X v) (hl : ∀ b ∈ l, X b) : SlF (fun b => X b ∨ H.n ≤ b) v' := fun b off n cap e => by
  by_cases h1 : H.n ≤ b
  · exact .inr h1
  by_cases h2 : b ∈ l
  · exact .inl (hl b h2)
  by_cases h3 : Apart v b
  · exact absurd e ((c.k b (by omega) h2 h3).2 off n cap)
  · refine .inl ?_
    apply Classical.byContradiction
    intro hX
    exact h3 fun off n cap e => hX (hv b off n cap e)
theorem PS.lift {X : Nat → Prop} {h h' : AH} {j d : Nat} {size base synced limit torn : Int} {bs : List UInt8} {l : RecL} (hp : PS X h j d size base synced limit torn bs l) (hn : h.n ≤ h'.n) (hk : ∀ b, X b → h'.at b = h.at b) : PS X h' j d size base synced limit torn bs l := by
  obtain ⟨v, vl, e1, e2, e3, e4, e5, e6⟩ := hp.e
  exact ⟨⟨v, vl, (hk _ hp.d).trans e1, (hk _ hp.j).trans e2, e3.lift fun b off n cap e => hk b (e4 b off n cap e), e4, e5, ownl_keep e6 (fun b off n cap e => hk b (e5 b off n cap e)) fun k hG _ => ⟨hk k hG.1, hG⟩⟩, hp.d, hp.j, fun b hb => Nat.lt_of_lt_of_le (hp.lt b hb) hn⟩
theorem PS.ext {X : Nat → Prop} {h h' : AH} {j d : Nat} {size base synced limit torn : Int} {bs : List UInt8} {l : RecL} (hp : PS X h j d size base synced limit torn bs l) (he : Ext h.n h h') : PS X h' j d size base synced limit torn bs l := hp.lift he.1 fun b hb => he.2 b (hp.lt b hb)
theorem appendJ_x {X F : Nat → Prop} {H : AH} {j d : Nat} {size base synced limit torn : Int} {bs ys : List UInt8} {l : RecL} {x : AV} (hp : PS X H j d size base synced limit torn bs l) (hk : DOk size base bs synced limit) (hx : IsSl RByte F H x ys) (hF : ∀ b, F b → ¬ X b) (hl : l.length ≤ 100000000) :
    WC Try.prog (tabOf Try.prog NT0) S0 18 [.ptr j 0, x] H fun r h' => if 524288 < ys.length then h' = H ∧ r = .tup [.lit (.int .i64 0), .lit (.int .i64 27)]
      else if size - bs.length < ys.length + 8 then Ext H.n H h' ∧ r = .tup [.lit (.int .i64 0), .lit (.int .i64 28)]
      else r = .tup [.lit (.int .i64 (base + bs.length)), .lit (.int .i64 0)] ∧ ∃ X', PS X' h' j d size base synced limit torn (bs ++ frameB ys) (l ++ [(base + bs.length, ys)]) ∧ Nx X X' H h' := by
  refine WC_fn Try.func18 rfl rfl ?_
  obtain ⟨v, vl, hd, hj, ho, xv, xl, hL⟩ := hp.e
  have hj' := hj
  unfold jnC at hj
  have L := ld_at (T := tabOf Try.prog NT0) hj
  have lj := at_lt hj
  have x1 := hx.isSl
  have x2 := hx.lenD
  simp only [core, zrA, zrS, zrM, zrL, zrE, reduceCtorEq, zrD, ziE, ziL, ziN, Try.ntmps18]
  refine (is_x hj').mono ?_
  rintro _ h1 ⟨e1, rfl⟩
  replace e1 := e1.symm
  subst e1
  by_cases c1 : 524288 < ys.length
  · have c1i : ((524288 : Int) < (ys.length : Int)) = True := by simp only [eq_iff_iff, iff_true]; omega
    simp only [if_pos c1]
    simp only [core, zrA, zrS, zrM, zrL, zrE, reduceCtorEq, zrD, ziE, ziL, ziN, x1, x2, c1i]
  have hy : ys.length ≤ 1000000000 := by omega
  have c1i : ((524288 : Int) < (ys.length : Int)) = False := by simp only [eq_iff_iff, iff_false]; omega
  simp only [if_neg c1]
  simp only [core, zrA, zrS, zrM, zrL, zrE, reduceCtorEq, zrD, ziE, ziL, ziN, x1, x2, c1i]
  rw [WB_regionD [0, 1, 2, 3, 4, 5, 6, 7, 8, 9, 10, 11] 11145607399672859468538244715896040119603200 (by kernel_rfl)]
  repeat ((with_reducible refine WDM_cons ?_; simp only [dw1]; try simp only [dw2, zrA, zrM, zrR, zrO, zrE]); simp only [core, zrA, zrS, zrM, zrL, zrE, reduceCtorEq, zrD, ziE, ziL, ziN, cored, L, lj])
  refine (frame_x hx (by omega)).mono ?_
  rintro s1 h1 ⟨E1, V1⟩
  have hj1 := E1.at lj hj
  have L1 := ld_at (T := tabOf Try.prog NT0) hj1
  have lj1 := at_lt hj1
  repeat ((with_reducible refine WDM_cons ?_; simp only [dw1]; try simp only [dw2, zrA, zrM, zrR, zrO, zrE]); simp only [core, zrA, zrS, zrM, zrL, zrE, reduceCtorEq, zrD, ziE, ziL, ziN, cored, L1, lj1])
  have hd1 := E1.at (at_lt hd) hd
  have hfl : (frameB ys).length = ys.length + 8 := by
    unfold frameB
    simp only [List.length_append, leB_length]
    omega
  refine (appendD_x (n0 := 0) hd1 hk.s.1 hk.s.2 hk.b (ho.ext E1) hk.l V1.sl (by omega) (Nat.zero_le _)).mono ?_
  rintro r h2 hr
  rw [hfl, show ((ys.length + 8 : Nat) : Int) = (ys.length : Int) + 8 by omega] at hr
  by_cases c2 : size - (bs.length : Int) < ys.length + 8
  · rw [if_pos c2] at hr
    simp only [if_pos c2]
    obtain ⟨rfl, rfl⟩ := hr
    have ce : ((28 : Int) != 0) = true := by decide
    repeat ((with_reducible refine WDM_cons ?_; simp only [dw1]; try simp only [dw2, zrA, zrM, zrR, zrO, zrE]); simp only [core, zrA, zrS, zrM, zrL, zrE, reduceCtorEq, zrD, ziE, ziL, ziN, cored, L1, lj1, same_one])
    simp only [core, zrA, zrS, zrM, zrL, zrE, reduceCtorEq, zrD, ziE, ziL, ziN, ce]
    exact E1
  rw [if_neg c2] at hr
  simp only [if_neg c2]
  obtain ⟨rfl, v2, hd2, ho2, C2⟩ := hr
  have hoe := ho.ext E1
  have djne : j ≠ d := fun e => by
    subst e
    rw [hj] at hd
    unfold dkC at hd
    cases hd
  have ldn := at_lt hd
  have apj : Apart v j := hoe.sep hj1 (by decide)
  obtain ⟨k2j, ap2j⟩ := C2.k j (at_lt hj1) (by simp [djne]) apj
  have hj2 : h2.at j = some (.cells [.ptr d 0, vl, .lit (.int .i64 torn)] 63) := k2j.trans hj1
  have hL2 : OwnL RRec (fun b => X b ∧ b ≠ d ∧ b ≠ j ∧ Apart v2 b) 0 h2 vl 84 l := by
    refine ownl_keep (hL.ext E1 (Nat.le_refl _)) (fun b off n cap e => ?_) fun b hG hlt => ?_
    · obtain ⟨row, hrow⟩ := own_at (hL.ext E1 (Nat.le_refl _)) e
      exact (C2.k b (at_lt hrow) (fun hm => by
        rw [List.mem_singleton] at hm
        subst hm
        rw [hd1] at hrow
        unfold dkC at hrow
        cases hrow) (hoe.sep hrow (by decide))).1
    · obtain ⟨q1, q2⟩ := C2.k b hlt (by simp [hG.2.1]) hG.2.2.2
      exact ⟨q1, hG.1, hG.2.1, hG.2.2.1, q2⟩
  have L2 := ld_at (T := tabOf Try.prog NT0) hj2
  have lj2 := at_lt hj2
  have ce : ((0 : Int) != 0) = false := by decide
  have n1 := E1.1
  have n2 := C2.n
  have hx2 : IsSl RByte F h2 x ys := hx.lift fun b hb hlt => ⟨((C2.k b (by omega) (fun hm => hF b hb (by rw [List.mem_singleton] at hm; rw [hm]; exact hp.d)) (fun off n cap e => hF b hb (xv b off n cap e))).1).trans (E1.2 b hlt), hb⟩
  repeat ((with_reducible refine WDM_cons ?_; simp only [dw1]; try simp only [dw2, zrA, zrM, zrR, zrO, zrE]); simp only [core, zrA, zrS, zrM, zrL, zrE, reduceCtorEq, zrD, ziE, ziL, ziN, cored, L2, lj2, same_one])
  simp only [core, zrA, zrS, zrM, zrL, zrE, reduceCtorEq, zrD, ziE, ziL, ziN, ce]
  have vl1 := hL.isSl
  rw [WB_regionD [0, 1, 2, 3, 4, 5, 6, 7, 8, 9, 10, 11, 12, 13] 50212216069073070219840294577702047911960487406968435113984 (by kernel_rfl)]
  repeat ((with_reducible refine WDM_cons ?_; simp only [dw1]; try simp only [dw2, zrA, zrM, zrR, zrO, zrE]); simp only [core, zrA, zrS, zrM, zrL, zrE, reduceCtorEq, zrD, ziE, ziL, ziN, cored, L2, lj2, vl1, same_sl])
  refine WOpD_app (OwnB.app (n0 := h2.n) .nil hx2 (by simp only [List.length_nil]; omega) (Nat.le_refl _)) ?_
  rintro s3 h3 ⟨o3, E3⟩
  rw [List.nil_append] at o3
  have n3 := E3.1
  have hj3 := E3.at lj2 hj2
  have L3 := ld_at (T := tabOf Try.prog NT0) hj3
  have lj3 := at_lt hj3
  have w1 := o3.isSl
  have w2 := o3.one
  have w3 := o3.cells
  repeat ((with_reducible refine WDM_cons ?_; simp only [dw1]; try simp only [dw2, zrA, zrM, zrR, zrO, zrE]); simp only [core, zrA, zrS, zrM, zrL, zrE, reduceCtorEq, zrD, ziE, ziL, ziN, cored, L3, lj3, w1, w2, w3, vl1, same_sl])
  obtain ⟨h4, hh4⟩ : ∃ h4, h4 = h3.push (.cells [.lit (.int .i64 (base + bs.length)), s3] 84) := ⟨_, rfl⟩
  have E4 : Ext h3.n h3 h4 := hh4 ▸ (Ext.refl _ _).push _ (Nat.le_refl _)
  have A4 : h4.at h3.n = some (.cells [.lit (.int .i64 (base + bs.length)), s3] 84) := hh4 ▸ at_push_n _ _
  rw [← hh4]
  have n4 := E4.1
  have E24 : Ext h2.n h2 h4 := E3.trans (E4.mono n3)
  have hL4 : OwnL RRec (fun b => (X b ∨ H.n ≤ b) ∧ b ≠ d ∧ b ≠ j ∧ Apart v2 b) 0 h4 vl 84 l := ownl_mono (hL2.ext E24 (Nat.le_refl _)) fun k hk _ => ⟨.inl hk.1, hk.2⟩
  have hs4 : IsSl RByte (fun b => h2.n ≤ b) h4 s3 ys := (o3.toSl (F := fun b => h2.n ≤ b) (fun _ h => h.elim) (fun _ h => h)).ext E4 (Nat.le_refl _)
  have hj4 := E24.at lj2 hj2
  have hd4 := E24.at (at_lt hd2) hd2
  have ho4 := ho2.ext E24
  have apl : ∀ b, H.n ≤ b → Apart vl b := fun b hb => hL.apart hb
  refine WOpD_app (hL4.snoc (y := (base + bs.length, ys)) (by kernel_rfl) (by kernel_rfl) (by kernel_rfl) (zv := .agg [.lit (.int .i64 0), .lit (.slice none 0 0)]) (by kernel_rfl) (by' := 32) (by kernel_rfl) rfl (by decide) (by decide) A4 (RRec_is.2 ⟨s3, rfl, hs4.lift fun b hb hlt => ⟨rfl, ⟨.inr (by omega), by have := at_lt hd2; omega, by omega, ho2.apartLt (.inr hb)⟩, apl b (by omega)⟩, by have := hk.b; have := hk.l; have := hk.s; unfold I64; dsimp only; omega⟩) (by omega) (by omega) (Nat.zero_le _)) ?_
  rintro s5 h5 ⟨hL5, e5, f5⟩
  have n5 := e5.1
  have sepl : ∀ {b : Nat} {q : List AV} {e : TypeId}, h4.at b = some (.cells q e) → e ≠ 84 → Apart vl b := fun hb hne off n cap e => by
    obtain ⟨row, hrow⟩ := own_at hL4 e
    rw [hrow] at hb
    cases hb
    exact hne rfl
  have aj := sepl hj4 (by decide)
  have ad := sepl hd4 (by decide)
  obtain ⟨q1j, q2j⟩ := f5 j (at_lt hj4) aj
  obtain ⟨q1d, q2d⟩ := f5 d (at_lt hd4) ad
  have hj5 := q1j.trans hj4
  have hd5 := q1d.trans hd4
  have L5 := ld_at (T := tabOf Try.prog NT0) hj5
  have lj5 := at_lt hj5
  have z1 := hL5.isSl
  have z2 := hL5.one
  repeat ((with_reducible refine WDM_cons ?_; simp only [dw1]; try simp only [dw2, zrA, zrM, zrR, zrO, zrE]); simp only [core, zrA, zrS, zrM, zrL, zrE, reduceCtorEq, zrD, ziE, ziL, ziN, cored, L5, lj5, hj5, z1, z2, vl1, same_sl])
  refine ⟨fun b => (X b ∨ H.n ≤ b) ∧ b < h5.n, ⟨⟨v2, s5, by rw [at_put_ne _ djne]; exact hd5, at_put lj5, ?_, ?_, ?_, ?_⟩, ⟨.inl hp.d, at_lt hd5⟩, ⟨.inl hp.j, lj5⟩, fun b hb => by rw [n_put]; exact hb.2⟩, ?_⟩
  · refine ho4.lift fun b off n cap e => ?_
    obtain ⟨-, hb⟩ := ho4.lt b off n cap e
    rw [at_put_ne _ (fun eb => ap2j off n cap (by rw [eb]; exact e))]
    refine (f5 b hb ?_).1
    rcases ho4 with ⟨e', -⟩ | ⟨p, ys', cap', e', -, hat, -⟩
    · rw [e'] at e; cases e
    · rw [e'] at e; cases e
      exact sepl hat (by decide)
  · intro b off n cap e
    refine ⟨?_, ?_⟩
    · rcases C2.slF (X := X) xv (by simp [hp.d]) b off n cap e with h | h
      · exact .inl h
      · exact .inr (by omega)
    · have := ho4.lt b off n cap e
      omega
  · intro b off n cap e
    obtain ⟨row, hrow⟩ := own_at hL5 e
    refine ⟨?_, at_lt hrow⟩
    by_cases hb4 : h4.n ≤ b
    · exact .inr (by omega)
    · by_cases hap : Apart vl b
      · exact absurd e ((f5 b (by omega) hap).2 off n cap)
      · refine .inl ?_
        apply Classical.byContradiction
        intro hX
        exact hap fun off n cap e => hX (xl b off n cap e)
  · refine ownl_keep hL5 (fun b off n cap e => at_put_ne _ (fun eb => q2j off n cap (by rw [eb]; exact e))) fun b hG hlt => ⟨at_put_ne _ (Ne.symm hG.2.2.1), ⟨hG.1, hlt⟩, hG.2⟩
  · refine ⟨by rw [n_put]; omega, fun b hb hX => ?_, fun b hb => hb.1⟩
    have hbd : b ≠ d := fun e => hX (e ▸ hp.d)
    have hbj : b ≠ j := fun e => hX (e ▸ hp.j)
    rw [at_put_ne _ (Ne.symm hbj)]
    have av : Apart v b := fun off n cap e => hX (xv b off n cap e)
    have al : Apart vl b := fun off n cap e => hX (xl b off n cap e)
    rw [(f5 b (by omega) al).1, E24.2 b (by omega), (C2.k b (by omega) (by simp [hbd]) av).1, E1.2 b hb]
end Go.Proofs.Ytcnbamdmngaliaa.Ex
end

section

set_option linter.unusedSimpArgs false
set_option linter.unusedVariables false
set_option maxRecDepth 10000
set_option maxHeartbeats 4000000
namespace Go.Proofs.Ytcnbamdmngaliaa.Ex
open Go
structure DS (Y : Nat → Prop) (h : AH) (k e : Nat) (size base synced limit torn : Int) (bs : List UInt8) : Prop where
  es : ∃ v, h.at e = some (ekC size base v synced limit) ∧ IsSl RByte (fun b => Y b ∧ b ≠ e ∧ b ≠ k) h v bs
  ks : h.at k = some (kjC e torn)
  ey : Y e
  ky : Y k
  lt : ∀ b, Y b → b < h.n
theorem DS.ne {Y : Nat → Prop} {h : AH} {k e : Nat} {size base synced limit torn : Int} {bs : List UInt8} (hp : DS Y h k e size base synced limit torn bs) : k ≠ e := fun eq => by
  obtain ⟨v, hv, -⟩ := hp.es
  have := hp.ks
  rw [eq, hv] at this
  unfold ekC kjC at this
  cases this
theorem DS.lift {Y : Nat → Prop} {h h' : AH} {k e : Nat} {size base synced limit torn : Int} {bs : List UInt8} (hp : DS Y h k e size base synced limit torn bs) (hn : h.n ≤ h'.n) (hk : ∀ b, Y b → h'.at b = h.at b) : DS Y h' k e size base synced limit torn bs := by
  obtain ⟨v, e1, e2⟩ := hp.es
  exact ⟨⟨v, (hk _ hp.ey).trans e1, e2.lift fun b hb _ => ⟨hk b hb.1, hb⟩⟩, (hk _ hp.ky).trans hp.ks, hp.ey, hp.ky, fun b hb => Nat.lt_of_lt_of_le (hp.lt b hb) hn⟩
theorem DS.ext {Y : Nat → Prop} {h h' : AH} {k e : Nat} {size base synced limit torn : Int} {bs : List UInt8} (hp : DS Y h k e size base synced limit torn bs) (he : Ext h.n h h') : DS Y h' k e size base synced limit torn bs := hp.lift he.1 fun b hb => he.2 b (hp.lt b hb)
/-- The disk alone is another one. -/
theorem DS.step {Y : Nat → Prop} {h h' : AH} {k e : Nat} {size base synced limit torn base' synced' limit' : Int} {bs bs' : List UInt8} {v' : AV} (hp : DS Y h k e size base synced limit torn bs) (hc : Cg [e] h h') (he : h'.at e = some (ekC size base' v' synced' limit')) (hv : IsSl RByte (fun b => h.n ≤ b) h' v' bs') :
    ∃ Y', DS Y' h' k e size base' synced' limit' torn bs' ∧ Nx Y Y' h h' := by
  have hke := hp.ne
  have hn := hc.n
  have lk := at_lt hp.ks
  have le := hp.lt e hp.ey
  have hlt : ∀ b, slB v' = b → b < h'.n ∨ v' = .lit (.slice none 0 0) := fun b hb => by
    rcases hv.bytesRow with ⟨e1, -⟩ | ⟨b', off, cap, row, e1, -, h4, -⟩
    · exact .inr e1
    · left; rw [← hb, e1]; exact getR_lt h4
  refine ⟨fun b => (Y b ∨ h.n ≤ b) ∧ b < h'.n, ⟨⟨v', he, hv.bytesF fun b off n cap e1 => ?_⟩, ?_, ⟨.inl hp.ey, by omega⟩, ⟨.inl hp.ky, by omega⟩, fun b hb => hb.2⟩, hc.n, fun b hb hY => hc.k b hb (fun hm => hY (by rw [List.mem_singleton] at hm; rw [hm]; exact hp.ey)), fun b hb => hb.1⟩
  · have : h.n ≤ b := by
      rcases hv.bytesRow with ⟨e2, -⟩ | ⟨b', off', cap', row, e2, hb, h4, -⟩
      · rw [e2] at e1; cases e1
      · rw [e2] at e1; cases e1; exact hb
    have hb2 : b < h'.n := by
      rcases hlt b (by rw [e1]; rfl) with h | h
      · exact h
      · rw [h] at e1; cases e1
    exact ⟨⟨.inr this, hb2⟩, by omega, by omega⟩
  · rw [hc.k k lk (by simp [hke])]
    exact hp.ks
theorem appendK_x {Y F : Nat → Prop} {H : AH} {k e : Nat} {size base synced limit torn : Int} {bs ys : List UInt8} {x : AV} (hp : DS Y H k e size base synced limit torn bs) (hk : DOk size base bs synced limit) (hx : IsSl RByte F H x ys) :
    WC Try.prog (tabOf Try.prog NT0) S0 31 [.ptr k 0, x] H fun r h' => if 524288 < ys.length then h' = H ∧ r = .tup [.lit (.int .i64 0), .lit (.int .i64 27)]
      else if size - bs.length < ys.length + 8 then Ext H.n H h' ∧ r = .tup [.lit (.int .i64 0), .lit (.int .i64 28)]
      else r = .tup [.lit (.int .i64 (base + bs.length)), .lit (.int .i64 0)] ∧ ∃ Y', DS Y' h' k e size base synced limit torn (bs ++ frameB ys) ∧ Nx Y Y' H h' := by
  refine WC_fn Try.func31 rfl rfl ?_
  obtain ⟨v, hd, hv⟩ := hp.es
  have hj := hp.ks
  unfold kjC at hj
  have L := ld_at (T := tabOf Try.prog NT0) hj
  have lj := at_lt hj
  have x1 := hx.isSl
  have x2 := hx.lenD
  by_cases c1 : 524288 < ys.length
  · have c1i : ((524288 : Int) < (ys.length : Int)) = True := by simp only [eq_iff_iff, iff_true]; omega
    simp only [if_pos c1]
    simp only [core, zrA, zrS, zrM, zrL, zrE, reduceCtorEq, zrD, ziE, ziL, ziN, Try.ntmps31, x1, x2, c1i]
  have hy : ys.length ≤ 1000000000 := by omega
  have c1i : ((524288 : Int) < (ys.length : Int)) = False := by simp only [eq_iff_iff, iff_false]; omega
  simp only [if_neg c1]
  simp only [core, zrA, zrS, zrM, zrL, zrE, reduceCtorEq, zrD, ziE, ziL, ziN, Try.ntmps31, x1, x2, c1i]
  rw [WB_regionD [0, 1, 2, 3, 4, 5, 6, 7, 8, 9, 10] 1328253845622433072461930197315225600 (by kernel_rfl)]
  repeat ((with_reducible refine WDM_cons ?_; simp only [dw1]; try simp only [dw2, zrA, zrM, zrR, zrO, zrE]); simp only [core, zrA, zrS, zrM, zrL, zrE, reduceCtorEq, zrD, ziE, ziL, ziN, cored, L, lj])
  refine (frameE_x hx (by omega)).mono ?_
  rintro s1 h1 ⟨E1, V1⟩
  have hj1 := E1.at lj hj
  have L1 := ld_at (T := tabOf Try.prog NT0) hj1
  have lj1 := at_lt hj1
  repeat ((with_reducible refine WDM_cons ?_; simp only [dw1]; try simp only [dw2, zrA, zrM, zrR, zrO, zrE]); simp only [core, zrA, zrS, zrM, zrL, zrE, reduceCtorEq, zrD, ziE, ziL, ziN, cored, L1, lj1])
  have hd1 := E1.at (at_lt hd) hd
  have hfl : (frameB ys).length = ys.length + 8 := by
    unfold frameB
    simp only [List.length_append, leB_length]
    omega
  refine (appendE_x hd1 hk.s.1 hk.s.2 hk.b (hv.ext E1 (Nat.le_refl _)) hk.l (VwB.ofOwn V1).sl (by omega)).mono ?_
  rintro r h2 hr
  rw [hfl, show ((ys.length + 8 : Nat) : Int) = (ys.length : Int) + 8 by omega] at hr
  by_cases c2 : size - (bs.length : Int) < ys.length + 8
  · rw [if_pos c2] at hr
    simp only [if_pos c2]
    obtain ⟨rfl, rfl⟩ := hr
    repeat ((with_reducible refine WDM_cons ?_; simp only [dw1]; try simp only [dw2, zrA, zrM, zrR, zrO, zrE]); simp only [core, zrA, zrS, zrM, zrL, zrE, reduceCtorEq, zrD, ziE, ziL, ziN, cored, L1, lj1, same_one])
    exact E1
  rw [if_neg c2] at hr
  simp only [if_neg c2]
  obtain ⟨rfl, C2, v2, hd2, hs2⟩ := hr
  have hj2 := (C2.k k (at_lt hj1) (by simp [hp.ne])).trans hj1
  have L2 := ld_at (T := tabOf Try.prog NT0) hj2
  have lj2 := at_lt hj2
  repeat ((with_reducible refine WDM_cons ?_; simp only [dw1]; try simp only [dw2, zrA, zrM, zrR, zrO, zrE]); simp only [core, zrA, zrS, zrM, zrL, zrE, reduceCtorEq, zrD, ziE, ziL, ziN, cored, L2, lj2, same_one])
  obtain ⟨Y', q1, q2⟩ := (hp.ext E1).step C2 hd2 hs2
  exact ⟨Y', q1, (Nx.ext E1).trans q2⟩
end Go.Proofs.Ytcnbamdmngaliaa.Ex
end

section

set_option linter.unusedSimpArgs false
set_option linter.unusedVariables false
set_option maxRecDepth 10000
set_option maxHeartbeats 4000000
namespace Go.Proofs.Ytcnbamdmngaliaa.Ex
open Go
theorem any_cut {P : Program} {T : TT} {S : Sums} {E : FE} {X : List AI → KK → Prop} {k : List AI} {K : KK} (Inv : TM → AH → Prop) (ha : ∀ k' K', (∀ t' h', Inv t' h' → WB P T S E t' k' h' K') → X k' K') (hk : ∀ t' h', Inv t' h' → WB P T S E t' k h' K) : X k K := ha k K hk
/-- Which record starts at a place. -/
def idxR (at_ : Int) : RecL → Nat
  | [] => 0
  | x :: l => if x.1 = at_ then 0 else idxR at_ l + 1
theorem idxR_le (at_ : Int) : ∀ l : RecL, idxR at_ l ≤ l.length
  | [] => Nat.le_refl _
  | x :: l => by
    have := idxR_le at_ l
    unfold idxR
    rw [List.length_cons]
    split <;> omega
theorem idxR_drop {at_ : Int} {l : RecL} {i : Nat} {x : Int × List UInt8} (hx : l[i]? = some x) : idxR at_ (l.drop i) = if x.1 = at_ then 0 else idxR at_ (l.drop (i + 1)) + 1 := by
  obtain ⟨hlt, e⟩ := List.getElem?_eq_some_iff.1 hx
  rw [List.drop_eq_getElem_cons hlt, e]
  rfl
theorem idxR_rdR (at_ : Int) : ∀ l : RecL, (idxR at_ l = l.length ↔ (rdR at_ l).2 ≠ 0)
  | [] => by simp [idxR, rdR]
  | x :: l => by
    have ih := idxR_rdR at_ l
    unfold idxR rdR
    rw [List.length_cons]
    by_cases c : x.1 = at_
    · simp [if_pos c]
    · simp only [if_neg c]
      rw [← ih]
      omega
/-- The disk is another one; the records are as they were. -/
theorem PS.step {X : Nat → Prop} {h h' : AH} {j d : Nat} {size base synced limit torn base' synced' limit' : Int} {bs bs' : List UInt8} {l : RecL} {v vl v' : AV} (hp : PS X h j d size base synced limit torn bs l)
    (hd : h.at d = some (dkC size base v synced limit)) (hj : h.at j = some (jnC d vl torn)) (ho : VwB 0 h v bs) (xv : SlF X v) (xl : SlF X vl) (hL : OwnL RRec (fun b => X b ∧ b ≠ d ∧ b ≠ j ∧ Apart v b) 0 h vl 84 l)
    (hc : Cg [d] h h') (he : h'.at d = some (dkC size base' v' synced' limit')) (hv : VwB 0 h' v' bs') (ha : ∀ b, b < h.n → Apart v b → Apart v' b) :
    ∃ X', PS X' h' j d size base' synced' limit' torn bs' l ∧ Nx X X' h h' := by
  have djne : j ≠ d := fun e => by
    subst e
    rw [hj] at hd
    unfold dkC jnC at hd
    cases hd
  have hn := hc.n
  refine ⟨fun b => (X b ∨ h.n ≤ b) ∧ b < h'.n, ⟨⟨v', vl, he, (hc.k j (at_lt hj) (by simp [djne])).trans hj, hv, ?_, ?_, ?_⟩, ⟨.inl hp.d, at_lt he⟩, ⟨.inl hp.j, Nat.lt_of_lt_of_le (at_lt hj) hn⟩, fun b hb => hb.2⟩, ?_⟩
  · intro b off n cap e
    refine ⟨?_, (hv.lt b off n cap e).2⟩
    by_cases hb : h.n ≤ b
    · exact .inr hb
    · refine .inl ?_
      apply Classical.byContradiction
      intro hX
      exact ha b (by omega) (fun off n cap e => hX (xv b off n cap e)) off n cap e
  · intro b off n cap e
    obtain ⟨row, hrow⟩ := own_at hL e
    exact ⟨.inl (xl b off n cap e), Nat.lt_of_lt_of_le (at_lt hrow) hn⟩
  · refine ownl_keep hL (fun b off n cap e => ?_) fun b hG hlt => ⟨hc.k b hlt (by simp [hG.2.1]), ⟨.inl hG.1, Nat.lt_of_lt_of_le hlt hn⟩, hG.2.1, hG.2.2.1, ha b hlt hG.2.2.2⟩
    obtain ⟨row, hrow⟩ := own_at hL e
    refine hc.k b (at_lt hrow) fun hm => ?_
    rw [List.mem_singleton] at hm
    subst hm
    rw [hd] at hrow
    unfold dkC at hrow
    cases hrow
  · exact ⟨hn, fun b hb hX => hc.k b hb (fun hm => hX (by rw [List.mem_singleton] at hm; rw [hm]; exact hp.d)), fun b hb => hb.1⟩
/-- append([]record(nil), x...). -/
theorem recs_copy {F : Nat → Prop} {H : AH} {x : AV} {l : RecL} (hx : IsSl RRec F H x l) (hl : l.length ≤ 100000000) :
    ∃ s' h', appendA (tabOf Try.prog NT0) H 61 61 (.lit (.slice none 0 0)) x = some (s', h') ∧ OwnL RRec F H.n h' s' 84 l ∧ Ext H.n H h' := by
  obtain ⟨L, h1, h2, hc, h3⟩ := hx.out
  obtain ⟨s', h', a1, a2, a3, -⟩ := OwnL.append (R := RRec) (G := F) (n0 := H.n) (xs := []) (ys := l) (M := L) .nil (T := tabOf Try.prog NT0) (t := 61) (tx := 61) (e := 84) (by kernel_rfl) (by kernel_rfl) (by kernel_rfl) (zv := .agg [.lit (.int .i64 0), .lit (.slice none 0 0)]) (by kernel_rfl) (by' := 32) (by kernel_rfl) rfl (by decide) (by decide) h1.src h1.len (h3.lift fun b hb _ => ⟨rfl, hb, fun off n cap e => by cases e⟩) (by simp only [List.length_nil]; omega) (by simp only [List.length_nil]; omega) (Nat.le_refl _)
  exact ⟨s', h', a1, a2, a3⟩
theorem own_sl {α : Type} {R : Rep α} {F G : Nat → Prop} {n0 : Nat} {h : AH} {v : AV} {e : TypeId} {xs : List α} (ho : OwnL R G n0 h v e xs) (hv : SlF F v) (hG : ∀ b, G b → F b) : IsSl R F h v xs := by
  obtain ⟨L, h1, h2⟩ := ho
  refine .mk h1.rd hv (fun b off n cap ev => ?_) (h2.lift fun b hb _ => ⟨rfl, hG b hb.1⟩)
  rcases h1.2 with ⟨hh, _⟩ | ⟨p, hh, hp, hat⟩
  · rw [hh] at ev; cases ev
  · rw [hh] at ev; cases ev; rfl
/-- The records' row is a new one. -/
theorem PS.recs {X : Nat → Prop} {h h3 : AH} {j d : Nat} {size base synced limit torn : Int} {bs : List UInt8} {l l' : RecL} {v vl s3 : AV} (hp : PS X h j d size base synced limit torn bs l)
    (hd : h.at d = some (dkC size base v synced limit)) (hj : h.at j = some (jnC d vl torn)) (ho : VwB 0 h v bs) (xv : SlF X v) (E : Ext h.n h h3) (o : OwnL RRec (fun b => X b ∧ b ≠ d ∧ b ≠ j ∧ Apart v b) h.n h3 s3 84 l') :
    ∃ X', PS X' (h3.put j (jnC d s3 torn)) j d size base synced limit torn bs l' ∧ Nx X X' h (h3.put j (jnC d s3 torn)) := by
  have djne : j ≠ d := fun e => by
    subst e
    rw [hj] at hd
    unfold dkC jnC at hd
    cases hd
  have hn := E.1
  have lj := at_lt hj
  have ld := at_lt hd
  refine ⟨fun b => (X b ∨ h.n ≤ b) ∧ b < h3.n, ⟨⟨v, s3, by rw [at_put_ne _ djne]; exact E.at ld hd, at_put (by omega), (ho.ext E).lift fun b off n cap e => at_put_ne _ (fun eb => ho.sep hj (by decide) off n cap (by rw [eb]; exact e)), fun b off n cap e => ⟨.inl (xv b off n cap e), by have := ho.lt b off n cap e; omega⟩, ?_, ?_⟩, ⟨.inl hp.d, by omega⟩, ⟨.inl hp.j, by omega⟩, fun b hb => by rw [n_put]; exact hb.2⟩, ?_⟩
  · intro b off n cap e
    obtain ⟨row, hrow⟩ := own_at o e
    refine ⟨.inr ?_, at_lt hrow⟩
    obtain ⟨L, h1, h2⟩ := o
    rcases h1.2 with ⟨hh, _⟩ | ⟨p, hh, hp, hat⟩
    · rw [hh] at e; cases e
    · rw [hh] at e; cases e; exact hp
  · have := ownl_keep (G' := fun b => ((X b ∨ h.n ≤ b) ∧ b < h3.n) ∧ b ≠ d ∧ b ≠ j ∧ Apart v b) (h' := h3.put j (jnC d s3 torn)) o (fun b off n cap e => by
      obtain ⟨L, h1, h2⟩ := o
      rcases h1.2 with ⟨hh, _⟩ | ⟨p, hh, hp, hat⟩
      · rw [hh] at e; cases e
      · rw [hh] at e; cases e; exact at_put_ne _ (by omega)) fun k hk hlt => ⟨at_put_ne _ (Ne.symm hk.2.2.1), ⟨.inl hk.1, hlt⟩, hk.2⟩
    obtain ⟨L, h1, h2⟩ := this
    exact ⟨L, ⟨h1.1, h1.2.elim .inl fun ⟨p, a, b, c⟩ => .inr ⟨p, a, Nat.zero_le _, c⟩⟩, h2⟩
  · refine ⟨by rw [n_put]; exact hn, fun b hb hX => ?_, fun b hb => hb.1⟩
    rw [at_put_ne _ (fun e => hX (by rw [← e]; exact hp.j))]
    exact E.2 b hb
/-- What Trim does. -/
structure TrimO (X : Nat → Prop) (H h' : AH) (j d : Nat) (size base synced limit torn at_ : Int) (bs : List UInt8) (l : RecL) (sy : Int) (fr : Prop) (r : AV) : Prop where
  none : idxR at_ l = l.length ∧ at_ ≠ base + bs.length → r = .lit (.int .i64 2) ∧ h' = H
  arg : ¬ (idxR at_ l = l.length ∧ at_ ≠ base + bs.length) → ¬ (base ≤ at_ ∧ at_ ≤ sy) → r = .lit (.int .i64 22) ∧ ∃ X', PS X' h' j d size base sy limit torn bs l ∧ Nx X X' H h'
  froz : ¬ (idxR at_ l = l.length ∧ at_ ≠ base + bs.length) → base ≤ at_ ∧ at_ ≤ sy → fr → r = .lit (.int .i64 0) ∧ ∃ X', PS X' h' j d size base sy limit torn bs (if base = at_ then l.drop (idxR at_ l) else l) ∧ Nx X X' H h'
  ok : ¬ (idxR at_ l = l.length ∧ at_ ≠ base + bs.length) → base ≤ at_ ∧ at_ ≤ sy → ¬ fr → r = .lit (.int .i64 0) ∧ ∃ X', PS X' h' j d size at_ sy limit torn (bs.drop (at_ - base).toNat) (l.drop (idxR at_ l)) ∧ Nx X X' H h'
theorem trimJ_x {X : Nat → Prop} {H : AH} {j d : Nat} {size base synced limit torn at_ : Int} {bs : List UInt8} {l : RecL} (hp : PS X H j d size base synced limit torn bs l) (hk : DOk size base bs synced limit) (hl : l.length ≤ 100000000) :
    WC Try.prog (tabOf Try.prog NT0) S0 37 [.ptr j 0, .lit (.int .i64 at_)] H fun r h' => TrimO X H h' j d size base synced limit torn at_ bs l (if 0 ≤ limit ∧ limit < base + bs.length then synced else base + bs.length) (0 ≤ limit ∧ limit < base + bs.length) r := by
  refine WC_fn Try.func37 rfl rfl ?_
  obtain ⟨v, vl, hd, hj, ho, xv, xl, hL⟩ := hp.e
  have hj' := hj
  unfold jnC at hj
  have L := ld_at (T := tabOf Try.prog NT0) hj
  have lj := at_lt hj
  have hI : IsSl RRec (fun b => X b ∧ b ≠ d ∧ b ≠ j ∧ Apart v b) H vl l := own_sl hL (fun b off n cap e => by
    obtain ⟨row, hrow⟩ := own_at hL e
    refine ⟨xl b off n cap e, fun eb => ?_, fun eb => ?_, ho.sep hrow (by decide)⟩
    · subst eb
      rw [hd] at hrow
      unfold dkC at hrow
      cases hrow
    · subst eb
      rw [hj] at hrow
      cases hrow) fun b h => h
  have s1 := hI.isSl
  have s2 := hI.lenD
  simp only [core, zrA, zrS, zrM, zrL, zrE, reduceCtorEq, zrD, ziE, ziL, ziN, Try.ntmps37]
  refine (is_x hj').mono ?_
  rintro _ h1 ⟨e1, rfl⟩
  replace e1 := e1.symm
  subst e1
  simp only [core, zrA, zrS, zrM, zrL, zrE, reduceCtorEq, zrD, ziE, ziL, ziN]
  with_reducible refine any_cut (P := Try.prog) (T := tabOf Try.prog NT0) (S := S0) (E := ⟨37, [], none, none⟩) (X := fun k K => WB _ _ _ _ _ (_ :: AI.blk 0 :: k) _ K) (fun t h => h = H ∧ t.n = 78 ∧ t.get 0 = .ptr j 0 ∧ t.get 1 = .lit (.int .i64 at_) ∧ t.get 5 = .lit (.int .i64 (idxR at_ l))) (fun k' K' hk => ?_) ?_
  · refine WB_ind (fun (i : Nat) t h => h = H ∧ i ≤ l.length ∧ i + idxR at_ (l.drop i) = idxR at_ l ∧ t.n = 78 ∧ t.get 0 = .ptr j 0 ∧ t.get 1 = .lit (.int .i64 at_) ∧ t.get 5 = .lit (.int .i64 i)) (fun i => l.length - i) ?_ 0 _ _ ?_
    · rintro i t h ⟨rfl, hi, hx, hn, g0, g1, g5⟩ ih
      by_cases hlt : i < l.length
      · have c1 : ((i : Int) < (l.length : Int)) = True := by simp only [eq_iff_iff, iff_true]; omega
        obtain ⟨x, hxi⟩ : ∃ x, l[i]? = some x := ⟨_, List.getElem?_eq_getElem hlt⟩
        obtain ⟨c, hc1, hld, hld0⟩ := hI.atE (T := tabOf Try.prog NT0) (Ext.refl _ _) RRec_z hxi
        obtain ⟨vb, rfl, hvb, hx0⟩ := RRec_is.1 hc1
        have hws := wrap_succ hlt (by omega)
        rw [idxR_drop hxi] at hx
        by_cases ce : x.1 = at_
        · have ceb : (x.1 != at_) = false := by rw [ce]; exact bne_self_eq_false _
          rw [if_pos ce] at hx
          simp only [core, zrA, zrS, zrM, zrL, zrE, reduceCtorEq, zrD, ziE, ziL, ziN, hn, g0, g1, g5, L, lj, s1, s2, c1, hlt, hld, hld0, ceb]
          refine hk _ _ ⟨rfl, ?_⟩
          simp only [core, zrA, zrS, zrM, zrL, zrE, reduceCtorEq, zrD, ziE, ziL, ziN, hn, g0, g1, g5, show idxR at_ l = i by omega]
        · have ceb : (x.1 != at_) = true := by rw [bne_iff_ne]; exact ce
          rw [if_neg ce] at hx
          simp only [core, zrA, zrS, zrM, zrL, zrE, reduceCtorEq, zrD, ziE, ziL, ziN, hn, g0, g1, g5, L, lj, s1, s2, c1, hlt, hld, hld0, ceb, hws]
          refine ih (i + 1) _ _ ⟨rfl, hlt, by omega, ?_⟩ (by omega)
          simp only [core, zrA, zrS, zrM, zrL, zrE, reduceCtorEq, zrD, ziE, ziL, ziN, hn, g0, g1, g5]
      · obtain rfl : i = l.length := by omega
        have c1 : ((l.length : Int) < (l.length : Int)) = False := by simp only [eq_iff_iff, iff_false]; omega
        simp only [core, zrA, zrS, zrM, zrL, zrE, reduceCtorEq, zrD, ziE, ziL, ziN, hn, g0, g1, g5, L, lj, s1, s2, c1, aundef]
        rw [List.drop_length] at hx
        refine hk _ _ ⟨rfl, ?_⟩
        simp only [core, zrA, zrS, zrM, zrL, zrE, reduceCtorEq, zrD, ziE, ziL, ziN, hn, g0, g1, g5, show idxR at_ l = l.length from hx.symm]
    · simp only [core, zrA, zrS, zrM, zrL, zrE, reduceCtorEq, zrD, ziE, ziL, ziN]
      simp
  · rintro t h ⟨rfl, hn, g0, g1, g5⟩
    have v1 := ho.isSl
    have v2 := ho.lenD
    have hd' := hd
    have hkl := hk.l
    have hks := hk.s
    have hkb := hk.b
    have hidx := idxR_le at_ l
    by_cases cQ : idxR at_ l = l.length ∧ at_ ≠ base + bs.length
    · have c1 : (((idxR at_ l : Nat) : Int) == (l.length : Int)) = true := by rw [cQ.1]; exact beq_self_eq_true _
      have c2 : (at_ != base + (bs.length : Int)) = true := by rw [bne_iff_ne]; exact cQ.2
      simp only [core, zrA, zrS, zrM, zrL, zrE, reduceCtorEq, zrD, ziE, ziL, ziN, hn, g0, g1, g5, L, lj, s1, s2, c1]
      refine (end_x hd' hks.1 v1 v2 hkb (by omega)).mono ?_
      rintro _ h1 ⟨e1, rfl⟩
      replace e1 := e1.symm
      subst e1
      simp only [core, zrA, zrS, zrM, zrL, zrE, reduceCtorEq, zrD, ziE, ziL, ziN, hn, g0, g1, g5, c2]
      exact ⟨fun _ => ⟨rfl, rfl⟩, fun h => absurd cQ h, fun h => absurd cQ h, fun h => absurd cQ h⟩
    rw [WB_seq]
    refine WB_cut (fun t h' => h' = h ∧ t.n = 78 ∧ t.get 0 = .ptr j 0 ∧ t.get 1 = .lit (.int .i64 at_) ∧ t.get 5 = .lit (.int .i64 (idxR at_ l)) ∧ t.get 46 = .lit (.bool false)) (fun k' K' hk => ?_) ?_
    · by_cases c : idxR at_ l = l.length
      · have c1 : (((idxR at_ l : Nat) : Int) == (l.length : Int)) = true := by rw [c]; exact beq_self_eq_true _
        have c2 : (at_ != base + (bs.length : Int)) = false := by
          rw [bne_eq_false_iff_eq]
          apply Classical.byContradiction
          intro h
          exact cQ ⟨c, h⟩
        simp only [core, zrA, zrS, zrM, zrL, zrE, reduceCtorEq, zrD, ziE, ziL, ziN, hn, g0, g1, g5, L, lj, s1, s2, c1]
        refine (end_x hd' hks.1 v1 v2 hkb (by omega)).mono ?_
        rintro _ h1 ⟨e1, rfl⟩
        replace e1 := e1.symm
        subst e1
        simp only [core, zrA, zrS, zrM, zrL, zrE, reduceCtorEq, zrD, ziE, ziL, ziN, hn, g0, g1, g5, c2]
        refine hk _ _ ⟨rfl, ?_⟩
        simp only [core, zrA, zrS, zrM, zrL, zrE, reduceCtorEq, zrD, ziE, ziL, ziN, hn, g0, g1, g5]
      · have c1 : (((idxR at_ l : Nat) : Int) == (l.length : Int)) = false := by rw [beq_eq_false_iff_ne]; omega
        simp only [core, zrA, zrS, zrM, zrL, zrE, reduceCtorEq, zrD, ziE, ziL, ziN, hn, g0, g1, g5, L, lj, s1, s2, c1, aundef]
        refine hk _ _ ⟨rfl, ?_⟩
        simp only [core, zrA, zrS, zrM, zrL, zrE, reduceCtorEq, zrD, ziE, ziL, ziN, hn, g0, g1, g5]
    · rintro t h' ⟨rfl, hn, g0, g1, g5, g46⟩
      simp only [core, zrA, zrS, zrM, zrL, zrE, reduceCtorEq, zrD, ziE, ziL, ziN, hn, g0, g1, g5, g46, L, lj]
      refine (sync_x hd' hks.1 v1 v2 hkb (by omega)).mono ?_
      rintro _ h1 ⟨rfl, m⟩
      obtain ⟨SY, hSY⟩ : ∃ SY, SY = if 0 ≤ limit ∧ limit < base + (bs.length : Int) then synced else base + bs.length := ⟨_, rfl⟩
      have hsy : base ≤ SY ∧ SY ≤ base + bs.length := by have := hk.y; rw [hSY]; split <;> omega
      rw [← hSY] at m ⊢
      have djne : j ≠ d := fun e => by
        subst e
        rw [hj] at hd
        unfold dkC at hd
        cases hd
      have hj1 := (m.ne j djne).trans hj
      have L1 := ld_at (T := tabOf Try.prog NT0) hj1
      have lj1 := at_lt hj1
      simp only [core, zrA, zrS, zrM, zrL, zrE, reduceCtorEq, zrD, ziE, ziL, ziN, hn, g0, g1, g5, g46, L1, lj1]
      have apd : ∀ b off n cap, v = .sl b off n cap → b ≠ d := fun b off n cap e eb => ho.sep hd (by decide) off n cap (by rw [← eb]; exact e)
      have ho1 : VwB 0 h1 v bs := ho.lift fun b off n cap e => m.ne b (apd b off n cap e)
      refine (trimD_x m.at_ hks.1 hkb (ho1.toSl (F := fun _ => True) fun _ _ _ _ _ => trivial) (by omega) hsy).mono ?_
      rintro r h2 hr
      by_cases ci : base ≤ at_ ∧ at_ ≤ SY
      case neg =>
        rw [if_neg ci] at hr
        obtain ⟨rfl, rfl⟩ := hr
        have ce : ((22 : Int) != 0) = true := by decide
        simp only [core, zrA, zrS, zrM, zrL, zrE, reduceCtorEq, zrD, ziE, ziL, ziN, hn, g0, g1, g5, g46, ce]
        exact ⟨fun h => absurd h cQ, fun _ _ => ⟨rfl, hp.step hd hj' ho xv xl hL (m.cg (by simp)) m.at_ ho1 fun _ _ h => h⟩, fun _ h => absurd h ci, fun _ h => absurd h ci⟩
      rw [if_pos ci] at hr
      obtain ⟨rfl, hr⟩ := hr
      have ce : ((0 : Int) != 0) = false := by decide
      simp only [core, zrA, zrS, zrM, zrL, zrE, reduceCtorEq, zrD, ziE, ziL, ziN, hn, g0, g1, g5, g46, ce]
      obtain ⟨base', bs', X2, hp2, N2, hcase⟩ : ∃ base' bs' X2, PS X2 h2 j d size base' SY limit torn bs' l ∧ Nx X X2 h' h2 ∧ (((0 ≤ limit ∧ limit < base + bs.length) ∧ base' = base ∧ bs' = bs) ∨ (¬ (0 ≤ limit ∧ limit < base + bs.length) ∧ base' = at_ ∧ bs' = bs.drop (at_ - base).toNat)) := by
        by_cases cf : 0 ≤ limit ∧ limit < base + (bs.length : Int)
        · rw [if_pos cf] at hr
          subst hr
          obtain ⟨X2, q1, q2⟩ := hp.step hd hj' ho xv xl hL (m.cg (by simp)) m.at_ ho1 fun _ _ h => h
          exact ⟨base, bs, X2, q1, q2, .inl ⟨cf, rfl, rfl⟩⟩
        · rw [if_neg cf] at hr
          obtain ⟨C2, v', hd2, V2⟩ := hr
          have hn1 := m.n
          obtain ⟨X2, q1, q2⟩ := hp.step hd hj' ho xv xl hL ((m.cg (by simp)).trans C2) hd2 (V2.mono (Nat.zero_le _)) fun b hb _ => V2.apartLt (.inl (by omega))
          exact ⟨at_, _, X2, q1, q2, .inr ⟨cf, rfl, rfl⟩⟩
      obtain ⟨v2, vl2, hd2, hj2, ho2, xv2, xl2, hL2⟩ := hp2.e
      have hj2' := hj2
      unfold jnC at hj2
      have L2 := ld_at (T := tabOf Try.prog NT0) hj2
      have lj2 := at_lt hj2
      have hI2 : IsSl RRec (fun b => X2 b ∧ b ≠ d ∧ b ≠ j ∧ Apart v2 b) h2 vl2 l := own_sl hL2 (fun b off n cap e => by
        obtain ⟨row, hrow⟩ := own_at hL2 e
        refine ⟨xl2 b off n cap e, fun eb => ?_, fun eb => ?_, ho2.sep hrow (by decide)⟩
        · subst eb
          rw [hd2] at hrow
          unfold dkC at hrow
          cases hrow
        · subst eb
          rw [hj2] at hrow
          cases hrow) fun b h => h
      have t1 := hI2.isSl
      have t2 := hI2.lenD
      have hcap : CapOk 2 vl2 := by obtain ⟨L, -, -, hc, -⟩ := hI2.out; exact hc
      simp only [core, zrA, zrS, zrM, zrL, zrE, reduceCtorEq, zrD, ziE, ziL, ziN, hn, g0, g1, g5, g46, L2, lj2]
      refine (base_x hd2 hks.1).mono ?_
      rintro _ h3 ⟨e3, rfl⟩
      replace e3 := e3.symm
      subst e3
      by_cases cb : base' = at_
      · have cbb : (base' == at_) = true := by rw [beq_iff_eq]; exact cb
        have j0 : ((0 : Int) ≤ ((idxR at_ l : Nat) : Int)) = True := by simp only [eq_iff_iff, iff_true]; omega
        have j1 : (((idxR at_ l : Nat) : Int) ≤ (l.length : Int)) = True := by simp only [eq_iff_iff, iff_true]; omega
        simp only [core, zrA, zrS, zrM, zrL, zrE, reduceCtorEq, zrD, ziE, ziL, ziN, hn, g0, g1, g5, g46, L2, lj2, t1, t2, cbb, hcap, j0, j1, Int.le_refl, Int.toNat_natCast]
        have hsub := hI2.sub (l := idxR at_ l) (r := l.length) hidx (Nat.le_refl _)
        rw [List.take_length] at hsub
        refine WOp_app (recs_copy hsub (by rw [List.length_drop]; omega)) ?_
        rintro s4 h4 ⟨o4, E4⟩
        have hj4 := E4.at lj2 hj2
        have lj4 := at_lt hj4
        have u1 := o4.isSl
        have u2 := o4.one
        simp only [core, zrA, zrS, zrM, zrL, zrE, reduceCtorEq, zrD, ziE, ziL, ziN, hn, g0, g1, g5, g46, hj4, lj4, u1, u2]
        obtain ⟨X3, hp3, N3⟩ := hp2.recs hd2 hj2' ho2 xv2 E4 o4
        have N := N2.trans N3
        rcases hcase with ⟨cf, rfl, rfl⟩ | ⟨cf, rfl, rfl⟩
        · refine ⟨fun h => absurd h cQ, fun _ h => absurd ci h, fun _ _ _ => ⟨rfl, X3, ?_, N⟩, fun _ _ h => absurd cf h⟩
          rw [if_pos cb]
          exact hp3
        · exact ⟨fun h => absurd h cQ, fun _ h => absurd ci h, fun _ _ h => absurd h cf, fun _ _ _ => ⟨rfl, X3, hp3, N⟩⟩
      · have cbb : (base' == at_) = false := by rw [beq_eq_false_iff_ne]; exact cb
        simp only [core, zrA, zrS, zrM, zrL, zrE, reduceCtorEq, zrD, ziE, ziL, ziN, hn, g0, g1, g5, g46, cbb]
        rcases hcase with ⟨cf, rfl, rfl⟩ | ⟨cf, rfl, -⟩
        · refine ⟨fun h => absurd h cQ, fun _ h => absurd ci h, fun _ _ _ => ⟨rfl, X2, ?_, N2⟩, fun _ _ h => absurd cf h⟩
          rw [if_neg cb]
          exact hp2
        · exact absurd rfl cb
end Go.Proofs.Ytcnbamdmngaliaa.Ex
end
