/- Part 4 of the proof: Sh3, Ty, Sh2, Jrg, Sh4, Sh5, Sh6, Sh7, Sh8, Sh9, ShA, She, Shm, Shn, Shl, Abs, Open. -/
import Derived.Test.YtpfibijbieblnaaGreatDoorRows
import Derived.ProofKit
import Derived.OpenShut
import Derived.ShutString
import Derived.ChangeOld
import Derived.SizedLaws
import Derived.Test.YtpfibijbieblnaaGreatDoorM3
open Nat renaming reduceAdd → zrA, reduceSub → zrS, reduceMul → zrM, reduceLT → zrL, reduceEqDiff → zrE, reduceLeDiff → zrD, reduceShiftRight → zrR, reduceMod → zrO
open Int renaming reduceLE → ziE, reduceLT → ziL, reduceToNat → ziN
section

set_option linter.unusedSimpArgs false
set_option linter.unusedVariables false
set_option maxRecDepth 10000
set_option maxHeartbeats 8000000
namespace Go.Proofs.YtpfibijbieblnaaGreatDoor.Ex
open Go
def uL (l : List Int) : List AV := l.map fun n => .lit (.int .u32 n)
theorem uL_len (l : List Int) : (uL l).length = l.length := List.length_map ..
theorem uL_get {l : List Int} {i : Nat} (h : i < l.length) : (uL l)[i]? = some (.lit (.int .u32 (l.getD i 0))) := by
  unfold uL
  rw [List.getElem?_map, List.getElem?_eq_getElem h, List.getD_eq_getElem?_getD, List.getElem?_eq_getElem h]
  rfl
theorem uL_put {l : List Int} {i : Nat} {x : Int} (h : i < l.length) : put (uL l) i [.lit (.int .u32 x)] = some (uL (l.set i x)) := by
  unfold put
  rw [if_pos (by rw [uL_len]; exact h)]
  unfold uL
  rw [List.map_set, List.set_eq_take_append_cons_drop, if_pos (by rw [List.length_map]; exact h)]
  simp
theorem uL_ones : ∀ l : List Int, (uL l).all AV.one = true
  | [] => rfl
  | x :: r => by show (true && (uL r).all AV.one) = true; rw [uL_ones r]; rfl
/-- An array's element. -/
def scalA : AV → Bool
  | .lit v => scal v
  | _ => false
def idxM (h : AH) (r : AR) (m : Nat) : AV → AV → AR
  | .agg cs, .lit (.int _ n) => if 0 ≤ n ∧ n.toNat < m ∧ cs.all scalA = true then (match cs[n.toNat]? with | some v => some (.val v, h) | none => r) else r
  | _, _ => r
theorem toScals_all : ∀ {cs : List AV}, cs.all scalA = true → ∃ vs, toScals cs = some vs ∧ cs = vs.map .lit ∧ ∀ v ∈ vs, scal v = true
  | [], _ => ⟨[], rfl, rfl, fun _ h => by cases h⟩
  | x :: r, h => by
    simp only [List.all_cons, Bool.and_eq_true] at h
    obtain ⟨vs, h1, h2, h3⟩ := toScals_all h.2
    obtain ⟨v, rfl⟩ : ∃ v, x = .lit v := by
      have := h.1
      cases x <;> first | exact ⟨_, rfl⟩ | cases this
    refine ⟨v :: vs, by simp [toScals, h1], by rw [h2]; rfl, fun w hw => ?_⟩
    cases hw with
    | head => exact h.1
    | tail _ hw => exact h3 w hw
theorem pur_bind0 {P : Program} {α β : Type} (s : Sem α) (f : α → Sem β) : pur P (s >>= f) = match pur P s with
    | some (.ok a) => pur P (f a)
    | some (.pan v) => some (.pan v)
    | none => none := by
  induction s with
  | pure a => rfl
  | program k ih => exact ih P
  | mark m k ih => exact ih
  | halt o => cases o <;> rfl
  | _ => rfl
section
variable {P : Program} {t : TM} {h : AH} {d : Option Tmp} {ty : TypeId} {ps : String} {af : Array Edge} {g : Option (Nat × Bool)} {e : TypeId}
theorem a_idxM {N : NT} {i j m : Nat} (he : ∀ (k : IntKind) (n : Int) (vs : List Value) (v : Value), 0 ≤ n → n.toNat < m → vs[n.toNat]? = some v → pur P (Instr.index e (.agg vs.toArray) (.int k n)) = some (.ok v)) :
    aop P (tabOf P N) ⟨d, .index e (.tmp i) (.tmp j), ty, ps, af, g⟩ t h = idxM h (aIdxR P (tabOf P N) ⟨d, .index e (.tmp i) (.tmp j), ty, ps, af, g⟩ t h e (.tmp i) (.tmp j)) m (t.get i) (t.get j) := by
  unfold idxM
  split
  · rename_i cs k n hx hy
    split
    · rename_i hc
      obtain ⟨h0, h1, h2⟩ := hc
      obtain ⟨vs, e1, rfl, e3⟩ := toScals_all h2
      split
      · rename_i v hv
        rw [List.getElem?_map, Option.map_eq_some_iff] at hv
        obtain ⟨w, hw, rfl⟩ := hv
        refine a_index_lit (vx := .agg vs.toArray) (vy := .int k n) (vr := w) (by rw [hx]; simp [toVal, e1]) (by rw [hy]; rfl) (he k n vs w h0 h1 hw) ?_
        have := e3 w (List.mem_of_getElem? hw)
        cases w <;> first | rfl | (simp [scal] at this; done) | skip
        all_goals (simp [ofVal, ofVal1, ofScal, this])
      · rfl
    · rfl
  · rfl
theorem ix_arr {el : TypeId} {m : Nat} {k0 : IntKind} (ht : P.underlying e = some (.array m el)) (he : P.underlying el = some (.int k0)) (hs : pur P (sizeOf el) = some (.ok 1))
    (k : IntKind) (n : Int) (vs : List Value) (v : Value) (h0 : 0 ≤ n) (h1 : n.toNat < m) (hv : vs[n.toNat]? = some v) : pur P (Instr.index e (.agg vs.toArray) (.int k n)) = some (.ok v) := by
  have u1 : ∀ {t : TypeId} {d : TypeDesc}, P.underlying t = some d → pur P (underlying t) = some (.ok d) := fun {t d} h => by
    show pur P (match P.underlying t with | some d => pure d | none => stuck "no such type") = _
    rw [h]; rfl
  have hc : 0 ≤ n ∧ n < (m : Int) := ⟨h0, by omega⟩
  show pur P (underlying e >>= _) = _
  rw [pur_bind0, u1 ht]
  simp only [if_pos hc]
  rw [pur_bind0, hs]
  simp only [Nat.mul_one]
  unfold part isAgg
  simp only [pur_bind0, u1 he]
  show pur P (match vs.toArray[n.toNat]? with | some v => pure v | none => stuck _) = _
  rw [List.getElem?_toArray, hv]
  rfl
end
theorem idxM_nat {h : AH} {r : AR} {m : Nat} {cs : List AV} {k : IntKind} {n : Nat} {v : AV} (hn : n < m) (hs : cs.all scalA = true) (hv : cs[n]? = some v) : idxM h r m (.agg cs) (.lit (.int k (n : Int))) = some (.val v, h) := by
  show (if _ then _ else r) = _
  rw [if_pos ⟨by omega, by rw [Int.toNat_natCast]; exact hn, hs⟩, Int.toNat_natCast, hv]
theorem uL_scal : ∀ l : List Int, (uL l).all scalA = true
  | [] => rfl
  | x :: r => by show (true && (uL r).all scalA) = true; rw [uL_scal r]; rfl
theorem un_xor {P : Program} {a : Int} : pur P (Op.unary .xor (.int .u32 a)) = some (.ok (.int .u32 (notW a))) := by
  rw [← notW_eq]
  simp [Op.unary, Op.intBits, xorI, IntKind.signed, IntKind.max, IntKind.bits]
  rfl
end Go.Proofs.YtpfibijbieblnaaGreatDoor.Ex
end

section

set_option linter.unusedSimpArgs false
set_option linter.unusedVariables false
set_option maxRecDepth 10000
namespace Go.Proofs.YtpfibijbieblnaaGreatDoor.Ex
open Go
section
variable {F : Nat → Prop} {h : AH} {c : List AV}
theorem RSl_is {α : Type} {R : Rep α} {xs : List α} : (RSl R).is F h c xs ↔ ∃ v, c = [v] ∧ IsSl R F h v xs :=
  ⟨fun hh => by obtain ⟨v, L, rfl, h1⟩ := hh; exact ⟨v, rfl, v, L, rfl, h1⟩, fun ⟨v, e, hh⟩ => e ▸ hh⟩
end
/-- The loads of an element, by place. -/
theorem IsSl.at {α : Type} {R : Rep α} {T : TT} {F : Nat → Prop} {h : AH} {v : AV} {xs : List α} (hs : IsSl R F h v xs) {z : Nat} (hz : R.z = z) {i : Nat} {x : α} (hx : xs[i]? = some x) :
    ∃ c, R.is F h c x ∧ (∀ e n j, sizeT T e = some n → 0 < n → j + n ≤ z → loadA T h e (slB v) (slO v + i * z + j) = ldL T e c j) ∧ (∀ e n, sizeT T e = some n → 0 < n → n ≤ z → loadA T h e (slB v) (slO v + i * z) = ldL T e c 0) := by
  subst hz
  obtain ⟨c, h1, h2⟩ := hs.get (T := T) hx
  exact ⟨c, h1, h2, fun e n hn h0 hle => by have := h2 e n 0 hn h0 (by omega); simpa using this⟩
/-- The loads of an element in a heap that has grown; what the element is, is told of the heap ahead. -/
theorem IsSl.atE {α : Type} {R : Rep α} {T : TT} {F : Nat → Prop} {H h : AH} {v : AV} {xs : List α} (hs : IsSl R F H v xs) (he : Ext H.n H h) {z : Nat} (hz : R.z = z) {i : Nat} {x : α} (hx : xs[i]? = some x) :
    ∃ c, R.is F H c x ∧ (∀ e n j, sizeT T e = some n → 0 < n → j + n ≤ z → loadA T h e (slB v) (slO v + i * z + j) = ldL T e c j) ∧ (∀ e n, sizeT T e = some n → 0 < n → n ≤ z → loadA T h e (slB v) (slO v + i * z) = ldL T e c 0) := by
  have key : ∀ e off, loadA T h e (slB v) off = loadA T H e (slB v) off := fun e off => by
    obtain ⟨L, h1, _, _, h3⟩ := hs.out
    rcases h1.2 with ⟨rfl, rfl⟩ | ⟨b, o, cap, row, rfl, h4, h5⟩
    · have := h3.1
      have hlt := (List.getElem?_eq_some_iff.1 hx).1
      simp at this
      omega
    · have := he.2 b (getR_lt h4)
      simp only [slB, loadA, getR, this]
  obtain ⟨c, h1, h2, h3⟩ := hs.at (T := T) hz hx
  exact ⟨c, h1, fun e n j a b d => by rw [key]; exact h2 e n j a b d, fun e n a b d => by rw [key]; exact h3 e n a b d⟩
end Go.Proofs.YtpfibijbieblnaaGreatDoor.Ex
end

section

set_option linter.unusedSimpArgs false
set_option linter.unusedVariables false
set_option maxRecDepth 10000
set_option maxHeartbeats 4000000
namespace Go.Proofs.YtpfibijbieblnaaGreatDoor.Ex
open Go
theorem rotl_x {H : AH} {x k n m : Int} (hk : andI .u64 (IntKind.u64.wrap k) 31 = m) (hs : IntKind.u64.wrap (32 - m) = n) (hm : 0 ≤ m) (hn : 0 ≤ n) :
    WC Tryz.prog (tabOf Tryz.prog NT0) S0 107 [.lit (.int .u32 x), .lit (.int .i64 k)] H fun r h' => h' = H ∧ r = .lit (.int .u32 (rotI x n m)) := by
  refine WC_fn Tryz.func107 rfl rfl ?_
  have s1 : ∀ {P : Program} {e : TypeId}, pur P (binOp .shl e (.int .u32 x) (.int .u64 m)) = some (.ok (.int .u32 (shlI .u32 x m))) := pb_shl hm
  have s2 : ∀ {P : Program} {e : TypeId}, pur P (binOp .shr e (.int .u32 x) (.int .u64 n)) = some (.ok (.int .u32 (shrI .u32 x n))) := pb_shr hn
  simp only [core, zrA, zrS, zrM, zrL, zrE, reduceCtorEq, zrD, ziE, ziL, ziN, Tryz.ntmps107, hk, hs, s1, s2]
  exact congrArg (fun z => AV.lit (Value.int .u32 z)) (orI_comm _ _ _)
theorem turn_x {H : AH} {x n m : Int} (hs : IntKind.u64.wrap (32 - n) = m) (hm : 0 ≤ m) (hn : 0 ≤ n) :
    WC Tryz.prog (tabOf Tryz.prog NT0) S0 68 [.lit (.int .u32 x), .lit (.int .u64 n)] H fun r h' => h' = H ∧ r = .lit (.int .u32 (rotI x n m)) := by
  refine WC_fn Tryz.func68 rfl rfl ?_
  have s1 : ∀ {P : Program} {e : TypeId}, pur P (binOp .shl e (.int .u32 x) (.int .u64 m)) = some (.ok (.int .u32 (shlI .u32 x m))) := pb_shl hm
  have s2 : ∀ {P : Program} {e : TypeId}, pur P (binOp .shr e (.int .u32 x) (.int .u64 n)) = some (.ok (.int .u32 (shrI .u32 x n))) := pb_shr hn
  simp only [core, zrA, zrS, zrM, zrL, zrE, reduceCtorEq, zrD, ziE, ziL, ziN, Tryz.ntmps68, hs, s1, s2]
  rfl
end Go.Proofs.YtpfibijbieblnaaGreatDoor.Ex
end

section

set_option linter.unusedSimpArgs false
set_option linter.unusedVariables false
set_option maxRecDepth 10000
set_option maxHeartbeats 4000000
namespace Go.Proofs.YtpfibijbieblnaaGreatDoor.Ex
open Go
/-- A round of a range over a function. -/
def WR (P : Program) (T : TT) (S : Sums) (l : Nat) (args : List AV) (h : AH) (Q : AV → AH → Prop) : Prop := W P T S (.round l args) h fun x h2 => ∃ v cm, x = .ended (.ret v) cm ∧ Q v h2
theorem WR.mono {P : Program} {T : TT} {S : Sums} {l : Nat} {args : List AV} {h : AH} {Q Q' : AV → AH → Prop} (hw : WR P T S l args h Q) (hq : ∀ v h', Q v h' → Q' v h') : WR P T S l args h Q' := W.mono hw fun o h' ⟨v, cm, e, hv⟩ => ⟨v, cm, e, hq v h' hv⟩
section
variable {P : Program} {T : TT} {S : Sums} {E : FE} {t : TM} {k : List AI} {h : AH} {K : KK}
end
end Go.Proofs.YtpfibijbieblnaaGreatDoor.Ex
end

section

set_option linter.unusedSimpArgs false
set_option linter.unusedVariables false
set_option maxRecDepth 10000
set_option maxHeartbeats 8000000
namespace Go.Proofs.YtpfibijbieblnaaGreatDoor.Ex
open Go
def S8.list (s : S8) : List Int := [s.a, s.b, s.c, s.d, s.e, s.f, s.g, s.h]
theorem byte_at {T : TT} {F : Nat → Prop} {h : AH} {v : AV} {xs : List UInt8} {e : TypeId} (hs : IsSl RByte F h v xs) (hA : isAggT T e = some false) (hS : sizeT T e = some 1) {i : Nat} (hi : i < xs.length) :
    loadA T h e (slB v) (slO v + i) = some (.lit (.int .u8 ((xs.getD i 0).toNat : Int))) := by
  obtain ⟨c, hc, h2⟩ := hs.get (T := T) (List.getElem?_eq_getElem hi)
  obtain rfl : c = [.lit (.int .u8 ((xs[i]).toNat : Int))] := hc
  have := h2 e 1 0 hS (by omega) (by show 0 + 1 ≤ 1; omega)
  simp only [RByte, Nat.mul_one, Nat.add_zero] at this
  rw [this]
  simp [ldL, hA, hS, List.getD_eq_getElem?_getD, List.getElem?_eq_getElem hi]
theorem take_getD {W l : List Int} {i j : Nat} (hT : W.take i = l) (hj : j < i) : W.getD j 0 = l.getD j 0 := by
  rw [← hT, List.getD_eq_getElem?_getD, List.getD_eq_getElem?_getD, List.getElem?_take, if_pos hj]
theorem set_take {W : List Int} {i : Nat} {x : Int} (h : i < W.length) : (W.set i x).take (i + 1) = W.take i ++ [x] := by
  rw [List.take_add_one, List.getElem?_set_self h, List.take_set, List.set_eq_of_length_le (by rw [List.length_take]; omega)]
  rfl
/-- A state added to another one, as far as i. -/
def addL (l r : List Int) (i : Nat) : List Int := (List.range 8).map fun j => if j < i then IntKind.u32.wrap (l.getD j 0 + r.getD j 0) else l.getD j 0
theorem addL_len (l r : List Int) (i : Nat) : (addL l r i).length = 8 := by simp [addL]
theorem addL_get {l r : List Int} {i j : Nat} (h : j < 8) : (addL l r i).getD j 0 = if j < i then IntKind.u32.wrap (l.getD j 0 + r.getD j 0) else l.getD j 0 := by
  simp [addL, List.getD_eq_getElem?_getD, List.getElem?_map, List.getElem?_range, h]
theorem addL_all (s r : S8) : addL s.list r.list 8 = (addS s r).list := rfl
theorem addL_succ {l r : List Int} {i : Nat} (h : i < 8) : (addL l r i).set i (IntKind.u32.wrap (l.getD i 0 + r.getD i 0)) = addL l r (i + 1) := by
  refine List.ext_getElem? fun j => ?_
  by_cases hj : j < 8
  · rw [List.getElem?_set, addL_len]
    have e1 := addL_get (l := l) (r := r) (i := i) hj
    have e2 := addL_get (l := l) (r := r) (i := i + 1) hj
    rw [List.getD_eq_getElem?_getD, List.getElem?_eq_getElem (by rw [addL_len]; exact hj)] at e1 e2
    rw [List.getElem?_eq_getElem (by rw [addL_len]; exact hj), List.getElem?_eq_getElem (by rw [addL_len]; exact hj)]
    simp only [Option.getD_some] at e1 e2
    rw [e1, e2]
    by_cases hij : i = j
    · subst hij
      rw [if_pos rfl, if_pos h, if_pos (by omega)]
    · rw [if_neg hij]
      congr 1
      by_cases hlt : j < i
      · rw [if_pos hlt, if_pos (by omega)]
      · rw [if_neg hlt, if_neg (by omega)]
  · rw [List.getElem?_eq_none (by rw [List.length_set, addL_len]; omega), List.getElem?_eq_none (by rw [addL_len]; omega)]
theorem a_ix64 {t : TM} {h : AH} {d : Option Tmp} {ty : TypeId} {ps : String} {af : Array Edge} {g : Option (Nat × Bool)} {i j : Nat} : aop Tryz.prog (tabOf Tryz.prog NT0) ⟨d, .index 103 (.tmp i) (.tmp j), ty, ps, af, g⟩ t h = idxM h (aIdxR Tryz.prog (tabOf Tryz.prog NT0) ⟨d, .index 103 (.tmp i) (.tmp j), ty, ps, af, g⟩ t h 103 (.tmp i) (.tmp j)) 64 (t.get i) (t.get j) :=
  a_idxM (ix_arr (k0 := .u32) (el := 82) (by kernel_rfl) (by kernel_rfl) (by kernel_rfl))
theorem a_ix8 {t : TM} {h : AH} {d : Option Tmp} {ty : TypeId} {ps : String} {af : Array Edge} {g : Option (Nat × Bool)} {i j : Nat} : aop Tryz.prog (tabOf Tryz.prog NT0) ⟨d, .index 100 (.tmp i) (.tmp j), ty, ps, af, g⟩ t h = idxM h (aIdxR Tryz.prog (tabOf Tryz.prog NT0) ⟨d, .index 100 (.tmp i) (.tmp j), ty, ps, af, g⟩ t h 100 (.tmp i) (.tmp j)) 8 (t.get i) (t.get j) :=
  a_idxM (ix_arr (k0 := .u32) (el := 82) (by kernel_rfl) (by kernel_rfl) (by kernel_rfl))
theorem block_x {H : AH} {ph pk : Nat} {s : S8} {ks : List Int} {m : List UInt8} {v : AV} {F : Nat → Prop} {eh ek : TypeId}
    (Ph : H.at ph = some (.cells (uL s.list) eh)) (Pk : H.at pk = some (.cells (uL ks) ek)) (hne : ph ≠ pk) (hk : ks.length = 64) (hv : IsSl RByte F H v m) (hm : m.length = 64) :
    WC Tryz.prog (tabOf Tryz.prog NT0) S0 65 [.ptr ph 0, .ptr pk 0, v] H fun r h' => Ext H.n (H.put ph (.cells (uL (blkF ks s m).list) eh)) h' := by
  refine WC_fn Tryz.func65 rfl rfl ?_
  have v1 := hv.isSl
  have v2 := hv.lenD
  rw [hm] at v2
  have lph := at_lt Ph
  have lpk := at_lt Pk
  simp only [core, zrA, zrS, zrM, zrL, zrE, reduceCtorEq, zrD, ziE, ziL, ziN, Tryz.ntmps65]
  refine WB_for 64 (fun i t h => (∃ W, W.length = 64 ∧ W.take i = sched m i ∧ h = H.push (.cells (uL W) 103)) ∧ t.n = 196 ∧ t.get 0 = .ptr ph 0 ∧ t.get 1 = .ptr pk 0 ∧ t.get 2 = v ∧ t.get 6 = .ptr H.n 0 ∧ t.get 18 = .lit (.int .i64 i)) ?_ ?_ _ _ ?_
  · rintro i t h hlt hc ⟨⟨W, hW, hT, rfl⟩, hn, g0, g1, g2, g6, g18⟩ ih
    have hc3 : ((i : Int) < 64) = True := by simp only [eq_iff_iff, iff_true]; omega
    have hw := wrap_succ hlt (by omega)
    have X : (H.push (.cells (uL W) 103)).at H.n = some (.cells (uL W) 103) := at_push_n _ _
    have L := ld_at (T := tabOf Tryz.prog NT0) X
    have l := at_lt X
    have hvh : IsSl RByte F (H.push (.cells (uL W) 103)) v m := hv.ext ((Ext.refl _ _).push _ (Nat.le_refl _)) (Nat.le_refl _)
    by_cases h16 : i < 16
    · have hcc : ((i : Int) < 16) = True := by simp only [eq_iff_iff, iff_true]; omega
      have hw0 : IntKind.i64.wrap (4 * (i : Int)) = ((4 * i : Nat) : Int) := (wrap_in (by omega) (by omega)).trans (by omega)
      have hw1 : IntKind.i64.wrap (((4 * i : Nat) : Int) + 1) = ((4 * i + 1 : Nat) : Int) := (wrap_in (by omega) (by omega)).trans (by omega)
      have hw2 : IntKind.i64.wrap (((4 * i : Nat) : Int) + 2) = ((4 * i + 2 : Nat) : Int) := (wrap_in (by omega) (by omega)).trans (by omega)
      have hw3 : IntKind.i64.wrap (((4 * i : Nat) : Int) + 3) = ((4 * i + 3 : Nat) : Int) := (wrap_in (by omega) (by omega)).trans (by omega)
      have B0 := byte_at (T := tabOf Tryz.prog NT0) (e := 5) hvh (by kernel_rfl) (by kernel_rfl) (i := 4 * i) (by omega)
      have B1 := byte_at (T := tabOf Tryz.prog NT0) (e := 5) hvh (by kernel_rfl) (by kernel_rfl) (i := 4 * i + 1) (by omega)
      have B2 := byte_at (T := tabOf Tryz.prog NT0) (e := 5) hvh (by kernel_rfl) (by kernel_rfl) (i := 4 * i + 2) (by omega)
      have B3 := byte_at (T := tabOf Tryz.prog NT0) (e := 5) hvh (by kernel_rfl) (by kernel_rfl) (i := 4 * i + 3) (by omega)
      have l0 : 4 * i < 64 := by omega
      have l1 : 4 * i + 1 < 64 := by omega
      have l2 : 4 * i + 2 < 64 := by omega
      have l3 : 4 * i + 3 < 64 := by omega
      have hp := uL_put (l := W) (i := i) (x := wordN m i) (by omega)
      have hbe := be4_P (m.getD (4 * i) 0) (m.getD (4 * i + 1) 0) (m.getD (4 * i + 2) 0) (m.getD (4 * i + 3) 0)
      rw [show be4 _ _ _ _ = wordN m i from rfl] at hbe
      simp only [corem, WB_cond_s, put, ldL, WB_label, List.nil_append, List.drop_zero, List.take_zero, zrA, zrS, zrM, zrL, zrE, reduceCtorEq, zrD, ziE, ziL, ziN, -put, hn, g0, g1, g2, g6, g18, hcc, hc3, hw]
      rw [WB_regionD [0, 1, 2, 3, 4, 5, 6, 7, 8, 9, 10, 11, 12, 13, 14, 15, 16, 17, 18, 19, 20, 21, 22, 23, 24, 25, 26, 27, 28, 29, 30, 31, 32, 33, 34, 35] 682094244294637391801376023566589392509147058308991457251253433743097802797492795963923151555339455376771628465036827050170891827642643020946077782132993680953594191355583600126502101764707569491446742472542557747248382898204059848349868971826636967088247472575758985515456238592962551412085827589371187434219920519662860586804868419479268036079876185415444770566466748331564087928967659520 (by kernel_rfl)]
      repeat ((with_reducible refine WDM_cons ?_; simp only [dw1]; try simp only [dw2, zrA, zrM, zrR, zrO, zrE]); simp only [corem, WB_cond_s, put, ldL, WB_label, List.nil_append, List.drop_zero, List.take_zero, zrA, zrS, zrM, zrL, zrE, reduceCtorEq, zrD, ziE, ziL, ziN, cored, -put, hn, g0, g1, g2, g6, g18, v1, v2, X, L, l, hw0, hw1, hw2, hw3, B0, B1, B2, B3, l0, l1, l2, l3, hlt, w32_byte, hbe, hp])
      refine ih _ _ ⟨⟨W.set i (wordN m i), by rw [List.length_set]; exact hW, by rw [set_take (by omega), hT, sched_lo m h16], rfl⟩, ?_⟩
      simp only [core, zrA, zrS, zrM, zrL, zrE, reduceCtorEq, zrD, ziE, ziL, ziN, hn, g0, g1, g2, g6, g18, hw]
    · have hcc : ((i : Int) < 16) = False := by simp only [eq_iff_iff, iff_false]; omega
      have hG : ∀ j, j < i → (uL W)[j]? = some (.lit (.int .u32 ((sched m i).getD j 0))) := fun j hj => by rw [uL_get (by omega), take_getD hT hj]
      have w15 : IntKind.i64.wrap ((i : Int) - 15) = ((i - 15 : Nat) : Int) := (wrap_in (by omega) (by omega)).trans (by omega)
      have w2 : IntKind.i64.wrap ((i : Int) - 2) = ((i - 2 : Nat) : Int) := (wrap_in (by omega) (by omega)).trans (by omega)
      have w16 : IntKind.i64.wrap ((i : Int) - 16) = ((i - 16 : Nat) : Int) := (wrap_in (by omega) (by omega)).trans (by omega)
      have w7 : IntKind.i64.wrap ((i : Int) - 7) = ((i - 7 : Nat) : Int) := (wrap_in (by omega) (by omega)).trans (by omega)
      have l15 : i - 15 < 64 := by omega
      have l2 : i - 2 < 64 := by omega
      have l16 : i - 16 < 64 := by omega
      have l7 : i - 7 < 64 := by omega
      have G15 := hG (i - 15) (by omega)
      have G2 := hG (i - 2) (by omega)
      have G16 := hG (i - 16) (by omega)
      have G7 := hG (i - 7) (by omega)
      have hs := wS_eq ((sched m i).getD (i - 16) 0) ((sched m i).getD (i - 15) 0) ((sched m i).getD (i - 7) 0) ((sched m i).getD (i - 2) 0)
      generalize hv0 : wS ((sched m i).getD (i - 16) 0) ((sched m i).getD (i - 15) 0) ((sched m i).getD (i - 7) 0) ((sched m i).getD (i - 2) 0) = V at hs
      unfold sg0 sg1 at hs
      have hp := uL_put (l := W) (i := i) (x := V) (by omega)
      simp only [corem, WB_cond_s, put, ldL, WB_label, List.nil_append, List.drop_zero, List.take_zero, zrA, zrS, zrM, zrL, zrE, reduceCtorEq, zrD, ziE, ziL, ziN, -put, hn, g0, g1, g2, g6, g18, hcc, hc3, hw]
      rw [WB_regionD [0, 1, 2, 3, 4, 5, 6, 7, 8, 9] 632605626243743306888296530944 (by kernel_rfl)]
      repeat ((with_reducible refine WDM_cons ?_; simp only [dw1]; try simp only [dw2, zrA, zrM, zrR, zrO, zrE]); simp only [corem, WB_cond_s, put, ldL, WB_label, List.nil_append, List.drop_zero, List.take_zero, zrA, zrS, zrM, zrL, zrE, reduceCtorEq, zrD, ziE, ziL, ziN, cored, -put, hn, g0, g1, g2, g6, g18, X, L, l, w15, w2, l15, l2, G15, G2])
      rw [WB_regionD [0, 1, 2, 3, 4, 5, 6, 7, 8, 9, 10, 12, 15, 16, 19, 21, 24, 25, 11, 13, 14, 17, 18, 20, 22, 23, 26, 27, 28, 29] 4226356243181170489693065777104487087608194604676801094210333910323127230927209480230507521036436074231345197476993637841378931026786137440909378463384939939076602346408687301226185195981462091590491144843489567468392929368445844688156292872765756203115807633697115471872 (by kernel_rfl)]
      repeat ((with_reducible refine WDM_cons ?_; simp only [dw1]; try simp only [dw2, zrA, zrM, zrR, zrO, zrE]); simp only [corem, WB_cond_s, put, ldL, WB_label, List.nil_append, List.drop_zero, List.take_zero, zrA, zrS, zrM, zrL, zrE, reduceCtorEq, zrD, ziE, ziL, ziN, cored, -put, hn, g0, g1, g2, g6, g18, X, L, l, w16, w7, l16, l7, G16, G7])
      refine (rotl_x (k := -7) (n := 7) (m := 25) (by decide +kernel) (by decide) (by decide) (by decide)).mono ?_
      rintro _ _ ⟨rfl, rfl⟩
      repeat ((with_reducible refine WDM_cons ?_; simp only [dw1]; try simp only [dw2, zrA, zrM, zrR, zrO, zrE]); simp only [corem, WB_cond_s, put, ldL, WB_label, List.nil_append, List.drop_zero, List.take_zero, zrA, zrS, zrM, zrL, zrE, reduceCtorEq, zrD, ziE, ziL, ziN, cored, -put, hn, g0, g1, g2, g6, g18, X, L, l, w16, w7, l16, l7, G16, G7])
      refine (rotl_x (k := -18) (n := 18) (m := 14) (by decide +kernel) (by decide) (by decide) (by decide)).mono ?_
      rintro _ _ ⟨rfl, rfl⟩
      repeat ((with_reducible refine WDM_cons ?_; simp only [dw1]; try simp only [dw2, zrA, zrM, zrR, zrO, zrE]); simp only [corem, WB_cond_s, put, ldL, WB_label, List.nil_append, List.drop_zero, List.take_zero, zrA, zrS, zrM, zrL, zrE, reduceCtorEq, zrD, ziE, ziL, ziN, cored, -put, hn, g0, g1, g2, g6, g18, X, L, l, w16, w7, l16, l7, G16, G7])
      refine (rotl_x (k := -17) (n := 17) (m := 15) (by decide +kernel) (by decide) (by decide) (by decide)).mono ?_
      rintro _ _ ⟨rfl, rfl⟩
      repeat ((with_reducible refine WDM_cons ?_; simp only [dw1]; try simp only [dw2, zrA, zrM, zrR, zrO, zrE]); simp only [corem, WB_cond_s, put, ldL, WB_label, List.nil_append, List.drop_zero, List.take_zero, zrA, zrS, zrM, zrL, zrE, reduceCtorEq, zrD, ziE, ziL, ziN, cored, -put, hn, g0, g1, g2, g6, g18, X, L, l, w16, w7, l16, l7, G16, G7])
      refine (rotl_x (k := -19) (n := 19) (m := 13) (by decide +kernel) (by decide) (by decide) (by decide)).mono ?_
      rintro _ _ ⟨rfl, rfl⟩
      repeat ((with_reducible refine WDM_cons ?_; simp only [dw1]; try simp only [dw2, zrA, zrM, zrR, zrO, zrE]); simp only [corem, WB_cond_s, put, ldL, WB_label, List.nil_append, List.drop_zero, List.take_zero, zrA, zrS, zrM, zrL, zrE, reduceCtorEq, zrD, ziE, ziL, ziN, cored, -put, hn, g0, g1, g2, g6, g18, X, L, l, w16, w7, l16, l7, G16, G7, hs, hp, hlt])
      refine ih _ _ ⟨⟨W.set i V, by rw [List.length_set]; exact hW, by rw [set_take (by omega), hT, sched_hi m h16, hv0], rfl⟩, ?_⟩
      simp only [core, zrA, zrS, zrM, zrL, zrE, reduceCtorEq, zrD, ziE, ziL, ziN, hn, g0, g1, g2, g6, g18, hw]
  · rintro t h hc ⟨⟨W, hW, hT, rfl⟩, hn, g0, g1, g2, g6, g18⟩
    have hc3 : (((64 : Nat) : Int) < 64) = False := by simp
    obtain rfl : W = sched m 64 := by rw [← hT, List.take_of_length_le (by omega)]
    have hb : blkF ks s m = addS s (rndsF ks (sched m 64) s 64) := rfl
    rw [hb]
    clear hT hb
    generalize sched m 64 = ws at *
    obtain ⟨h1, hh1⟩ : ∃ h1, h1 = H.push (.cells (uL ws) 103) := ⟨_, rfl⟩
    have e1 : Ext H.n H h1 := hh1 ▸ (Ext.refl _ _).push _ (Nat.le_refl _)
    have X1 : h1.at H.n = some (.cells (uL ws) 103) := hh1 ▸ at_push_n _ _
    have P1 : h1.at ph = some (.cells (uL s.list) eh) := (e1.2 _ lph).trans Ph
    have K1 : h1.at pk = some (.cells (uL ks) ek) := (e1.2 _ lpk).trans Pk
    have L1 := ld_at (T := tabOf Tryz.prog NT0) X1
    have L2 := ld_at (T := tabOf Tryz.prog NT0) P1
    have L3 := ld_at (T := tabOf Tryz.prog NT0) K1
    have l1 := at_lt X1
    have l2 := at_lt P1
    have l3 := at_lt K1
    have a1 : (uL s.list).length = 8 := rfl
    have a2 : (uL s.list).take 8 = uL s.list := rfl
    have a3 := uL_ones s.list
    have a4 : (uL ws).length = 64 := by rw [uL_len]; exact hW
    have a5 : (uL ws).take 64 = uL ws := List.take_of_length_le (by omega)
    simp only [core, zrA, zrS, zrM, zrL, zrE, reduceCtorEq, zrD, ziE, ziL, ziN, hn, g0, g1, g2, g6, g18, ← hh1, hc3, X1, P1, K1, L1, L2, L3, l1, l2, l3, a1, a2, a3, a4, a5]
    clear L1 L2 L3 l1 l2 l3 X1
    have l2 := at_lt P1
    have l3 := at_lt K1
    refine WB_for 64 (fun i t h => h = h1.push (.cells (uL (rndsF ks ws s i).list) 100) ∧ t.n = 196 ∧ t.get 0 = .ptr ph 0 ∧ t.get 1 = .ptr pk 0 ∧ t.get 10 = .ptr h1.n 0 ∧ t.get 99 = .agg (uL ws) ∧ t.get 100 = .lit (.int .i64 i)) ?_ ?_ _ _ ?_
    · rintro i t h hlt hc ⟨rfl, hn, g0, g1, g10, g99, g100⟩ ih
      rw [rnds_succ] at ih
      generalize rndsF ks ws s i = S at *
      obtain ⟨a, b, c, d, e, f, g, h8⟩ := S
      have hx : uL (S8.list ⟨a, b, c, d, e, f, g, h8⟩) = [.lit (.int .u32 a), .lit (.int .u32 b), .lit (.int .u32 c), .lit (.int .u32 d), .lit (.int .u32 e), .lit (.int .u32 f), .lit (.int .u32 g), .lit (.int .u32 h8)] := rfl
      rw [hx]
      have hc3 : ((i : Int) < 64) = True := by simp only [eq_iff_iff, iff_true]; omega
      have hw := wrap_succ hlt (by omega)
      obtain ⟨hA, hhA⟩ : ∃ hA, hA = h1.push (.cells [.lit (.int .u32 a), .lit (.int .u32 b), .lit (.int .u32 c), .lit (.int .u32 d), .lit (.int .u32 e), .lit (.int .u32 f), .lit (.int .u32 g), .lit (.int .u32 h8)] 100) := ⟨_, rfl⟩
      have eA : Ext h1.n h1 hA := hhA ▸ (Ext.refl _ _).push _ (Nat.le_refl _)
      have X : hA.at h1.n = some (.cells [.lit (.int .u32 a), .lit (.int .u32 b), .lit (.int .u32 c), .lit (.int .u32 d), .lit (.int .u32 e), .lit (.int .u32 f), .lit (.int .u32 g), .lit (.int .u32 h8)] 100) := hhA ▸ at_push_n _ _
      have K : hA.at pk = some (.cells (uL ks) ek) := (eA.2 _ l3).trans K1
      have L := ld_at (T := tabOf Tryz.prog NT0) X
      have l := at_lt X
      have LK := ld_at (T := tabOf Tryz.prog NT0) K
      have lK := at_lt K
      have hX : ∀ (h : AH) (r : AR), idxM h r 64 (.agg (uL ws)) (.lit (.int .i64 (i : Int))) = some (.val (.lit (.int .u32 (ws.getD i 0))), h) := fun h r => idxM_nat hlt (uL_scal ws) (uL_get (by omega))
      have hk : (uL ks)[i]? = some (.lit (.int .u32 (ks.getD i 0))) := uL_get (by omega)
      simp only [core, zrA, zrS, zrM, zrL, zrE, reduceCtorEq, zrD, ziE, ziL, ziN, hn, g0, g1, g10, g99, g100, hc3, hw, ← hhA, a_ix64, hX]
      rw [WB_regionD [0, 1, 2, 3, 4, 5] 33337376832 (by kernel_rfl)]
      repeat ((with_reducible refine WDM_cons ?_; simp only [dw1]; try simp only [dw2, zrA, zrM, zrR, zrO, zrE]); simp only [core, zrA, zrS, zrM, zrL, zrE, reduceCtorEq, zrD, ziE, ziL, ziN, cored, hn, g0, g1, g10, g99, g100, X, L, l, K, LK, lK, hlt, hk, un_xor])
      rw [WB_regionD [0, 1, 2, 4, 7, 11, 12, 13, 14, 15, 16, 17, 18, 19, 20, 22, 23, 24, 25, 26, 28, 3, 5, 6, 8, 9, 10, 21, 27, 29, 30] 9745314004592975874477018222051621487002710088150879133790677282748834042528470609192768370606981665146314941683538133645183762704400873963364846797798690757601859785672530954702028003877684301851897396728664537345728215055110224979310674917262468538616566875140880303841300612182903357440 (by kernel_rfl)]
      repeat ((with_reducible refine WDM_cons ?_; simp only [dw1]; try simp only [dw2, zrA, zrM, zrR, zrO, zrE]); simp only [core, zrA, zrS, zrM, zrL, zrE, reduceCtorEq, zrD, ziE, ziL, ziN, cored, hn, g0, g1, g10, g99, g100, X, L, l, K, LK, lK, hlt, hk, un_xor])
      refine (rotl_x (k := -6) (n := 6) (m := 26) (by decide +kernel) (by decide) (by decide) (by decide)).mono ?_
      rintro _ _ ⟨rfl, rfl⟩
      repeat ((with_reducible refine WDM_cons ?_; simp only [dw1]; try simp only [dw2, zrA, zrM, zrR, zrO, zrE]); simp only [core, zrA, zrS, zrM, zrL, zrE, reduceCtorEq, zrD, ziE, ziL, ziN, cored, hn, g0, g1, g10, g99, g100, X, L, l, K, LK, lK, hlt, hk, un_xor])
      refine (rotl_x (k := -11) (n := 11) (m := 21) (by decide +kernel) (by decide) (by decide) (by decide)).mono ?_
      rintro _ _ ⟨rfl, rfl⟩
      repeat ((with_reducible refine WDM_cons ?_; simp only [dw1]; try simp only [dw2, zrA, zrM, zrR, zrO, zrE]); simp only [core, zrA, zrS, zrM, zrL, zrE, reduceCtorEq, zrD, ziE, ziL, ziN, cored, hn, g0, g1, g10, g99, g100, X, L, l, K, LK, lK, hlt, hk, un_xor])
      refine (rotl_x (k := -25) (n := 25) (m := 7) (by decide +kernel) (by decide) (by decide) (by decide)).mono ?_
      rintro _ _ ⟨rfl, rfl⟩
      repeat ((with_reducible refine WDM_cons ?_; simp only [dw1]; try simp only [dw2, zrA, zrM, zrR, zrO, zrE]); simp only [core, zrA, zrS, zrM, zrL, zrE, reduceCtorEq, zrD, ziE, ziL, ziN, cored, hn, g0, g1, g10, g99, g100, X, L, l, K, LK, lK, hlt, hk, un_xor])
      rw [WB_regionD [0, 2, 5, 8, 9, 10, 11, 12, 13, 14, 15, 16, 17, 18, 19, 20, 21, 22, 1, 3, 4, 6, 7, 23, 24] 69617315882342512290703067383364087617901638685148333686487896407943819599850093686125945081267307103059438178604578030479871611404661278236147007742890756532487082902103903123016970665984 (by kernel_rfl)]
      repeat ((with_reducible refine WDM_cons ?_; simp only [dw1]; try simp only [dw2, zrA, zrM, zrR, zrO, zrE]); simp only [core, zrA, zrS, zrM, zrL, zrE, reduceCtorEq, zrD, ziE, ziL, ziN, cored, hn, g0, g1, g10, g99, g100, X, L, l, K, LK, lK, hlt, hk, un_xor])
      refine (rotl_x (k := -2) (n := 2) (m := 30) (by decide +kernel) (by decide) (by decide) (by decide)).mono ?_
      rintro _ _ ⟨rfl, rfl⟩
      repeat ((with_reducible refine WDM_cons ?_; simp only [dw1]; try simp only [dw2, zrA, zrM, zrR, zrO, zrE]); simp only [core, zrA, zrS, zrM, zrL, zrE, reduceCtorEq, zrD, ziE, ziL, ziN, cored, hn, g0, g1, g10, g99, g100, X, L, l, K, LK, lK, hlt, hk, un_xor])
      refine (rotl_x (k := -13) (n := 13) (m := 19) (by decide +kernel) (by decide) (by decide) (by decide)).mono ?_
      rintro _ _ ⟨rfl, rfl⟩
      repeat ((with_reducible refine WDM_cons ?_; simp only [dw1]; try simp only [dw2, zrA, zrM, zrR, zrO, zrE]); simp only [core, zrA, zrS, zrM, zrL, zrE, reduceCtorEq, zrD, ziE, ziL, ziN, cored, hn, g0, g1, g10, g99, g100, X, L, l, K, LK, lK, hlt, hk, un_xor])
      refine (rotl_x (k := -22) (n := 22) (m := 10) (by decide +kernel) (by decide) (by decide) (by decide)).mono ?_
      rintro _ _ ⟨rfl, rfl⟩
      repeat ((with_reducible refine WDM_cons ?_; simp only [dw1]; try simp only [dw2, zrA, zrM, zrR, zrO, zrE]); simp only [core, zrA, zrS, zrM, zrL, zrE, reduceCtorEq, zrD, ziE, ziL, ziN, cored, hn, g0, g1, g10, g99, g100, X, L, l, K, LK, lK, hlt, hk, un_xor])
      subst hhA
      refine ih _ _ ⟨by rw [put_push]; rfl, ?_⟩
      simp only [core, zrA, zrS, zrM, zrL, zrE, reduceCtorEq, zrD, ziE, ziL, ziN, hn, g0, g1, g10, g99, g100, hw]
    · rintro t h hc ⟨rfl, hn, g0, g1, g10, g99, g100⟩
      generalize rndsF ks ws s 64 = S at *
      have hc3 : (((64 : Nat) : Int) < 64) = False := by simp
      obtain ⟨h2, hh2⟩ : ∃ h2, h2 = h1.push (.cells (uL S.list) 100) := ⟨_, rfl⟩
      have e2 : Ext h1.n h1 h2 := hh2 ▸ (Ext.refl _ _).push _ (Nat.le_refl _)
      have X2 : h2.at h1.n = some (.cells (uL S.list) 100) := hh2 ▸ at_push_n _ _
      have P2 : h2.at ph = some (.cells (uL s.list) eh) := (e2.2 _ l2).trans P1
      simp only [core, zrA, zrS, zrM, zrL, zrE, reduceCtorEq, zrD, ziE, ziL, ziN, hn, g0, g1, g10, g99, g100, ← hh2, hc3]
      have Z : ∀ h', h2.n ≤ h'.n → (∀ b, b < h2.n → b ≠ ph → h'.at b = h2.at b) → h'.at ph = some (.cells (uL (addS s S).list) eh) → Ext H.n (H.put ph (.cells (uL (addS s S).list) eh)) h' := fun h' z1 z2 z3 => by
        have n1 := e1.1
        have n2 := e2.1
        refine ⟨by rw [n_put]; omega, fun b hb => ?_⟩
        by_cases hbp : b = ph
        · rw [hbp, z3, at_put_same _ lph]
        · rw [z2 b (by omega) hbp, e2.2 b (by omega), e1.2 b hb, at_put_ne _ (Ne.symm hbp)]
      refine WB_for 8 (fun i t h => h2.n ≤ h.n ∧ (∀ b, b < h2.n → b ≠ ph → h.at b = h2.at b) ∧ h.at ph = some (.cells (uL (addL s.list S.list i)) eh) ∧ t.n = 196 ∧ t.get 0 = .ptr ph 0 ∧ t.get 10 = .ptr h1.n 0 ∧ t.get 181 = .lit (.int .i64 i)) ?_ ?_ _ _ ?_
      · rintro i t h hlt hc ⟨y1, y2, y3, hn, g0, g10, g181⟩ ih
        have hc3 : ((i : Int) < 8) = True := by simp only [eq_iff_iff, iff_true]; omega
        have hw := wrap_succ hlt (by omega)
        have hne2 : h1.n ≠ ph := by omega
        have X : h.at h1.n = some (.cells (uL S.list) 100) := (y2 _ (at_lt X2) hne2).trans X2
        have LX := ld_at (T := tabOf Tryz.prog NT0) X
        have lX := at_lt X
        have LP := ld_at (T := tabOf Tryz.prog NT0) y3
        have lP := at_lt y3
        have g1' : (uL (addL s.list S.list i))[i]? = some (.lit (.int .u32 (s.list.getD i 0))) := by
          rw [uL_get (by rw [addL_len]; exact hlt), addL_get hlt, if_neg (by omega)]
        have g2' : (uL S.list)[i]? = some (.lit (.int .u32 (S.list.getD i 0))) := uL_get hlt
        have hp := uL_put (l := addL s.list S.list i) (i := i) (x := IntKind.u32.wrap (s.list.getD i 0 + S.list.getD i 0)) (by rw [addL_len]; exact hlt)
        rw [addL_succ hlt] at hp
        simp only [corem, WB_cond_s, put, ldL, WB_label, List.nil_append, List.drop_zero, List.take_zero, zrA, zrS, zrM, zrL, zrE, reduceCtorEq, zrD, ziE, ziL, ziN, -put, hn, g0, g10, g181, hc3, hw]
        rw [WB_regionD [0, 1, 2, 3, 4, 5, 6, 7, 8, 9, 10, 11] 11146287881978988116451164529842295681318912 (by kernel_rfl)]
        repeat ((with_reducible refine WDM_cons ?_; simp only [dw1]; try simp only [dw2, zrA, zrM, zrR, zrO, zrE]); simp only [corem, WB_cond_s, put, ldL, WB_label, List.nil_append, List.drop_zero, List.take_zero, zrA, zrS, zrM, zrL, zrE, reduceCtorEq, zrD, ziE, ziL, ziN, cored, -put, hn, g0, g10, g181, X, LX, lX, y3, LP, lP, hlt, g1', g2', hp])
        refine ih _ _ ⟨by rw [n_put]; exact y1, fun b hb hbp => (at_put_ne _ (Ne.symm hbp)).trans (y2 b hb hbp), at_put_same _ lP, ?_⟩
        simp only [core, zrA, zrS, zrM, zrL, zrE, reduceCtorEq, zrD, ziE, ziL, ziN, hn, g0, g10, g181, hw]
      · rintro t h hc ⟨y1, y2, y3, hn, g0, g10, g181⟩
        have hc3 : (((8 : Nat) : Int) < 8) = False := by simp
        simp only [core, zrA, zrS, zrM, zrL, zrE, reduceCtorEq, zrD, ziE, ziL, ziN, hn, g0, g10, g181, hc3]
        exact ⟨.inl trivial, Z h y1 y2 y3⟩
      · refine ⟨Nat.le_refl _, fun _ _ _ => rfl, P2, ?_⟩
        simp only [core, zrA, zrS, zrM, zrL, zrE, reduceCtorEq, zrD, ziE, ziL, ziN, hn, g0, g1, g10, g99, g100]
        rfl
    · simp only [core, zrA, zrS, zrM, zrL, zrE, reduceCtorEq, zrD, ziE, ziL, ziN, hn, g0, g1, g2, g6, g18, rnds_zero]
      rfl
  · refine ⟨⟨List.replicate 64 0, rfl, (sched_zero m).symm, rfl⟩, ?_⟩
    simp only [core, zrA, zrS, zrM, zrL, zrE, reduceCtorEq, zrD, ziE, ziL, ziN]
    rfl
end Go.Proofs.YtpfibijbieblnaaGreatDoor.Ex
end

section

set_option linter.unusedSimpArgs false
set_option linter.unusedVariables false
set_option maxRecDepth 10000
set_option maxHeartbeats 8000000
namespace Go.Proofs.YtpfibijbieblnaaGreatDoor.Ex
open Go
/-- So many bytes of a word. -/
def prt (m : List UInt8) (i : Nat) : Nat → Nat
  | 0 => 0
  | k + 1 => prt m i k * 256 + (m.getD (4 * i + k) 0).toNat
theorem prt_lt (m : List UInt8) (i : Nat) : ∀ k, prt m i k < 256 ^ k
  | 0 => by simp [prt]
  | k + 1 => by
    have h1 := prt_lt m i k
    have h2 := UInt8.toNat_lt (m.getD (4 * i + k) 0)
    have h3 : 256 ^ (k + 1) = 256 ^ k * 256 := Nat.pow_succ ..
    show prt m i k * 256 + _ < _
    omega
theorem prt_4 (m : List UInt8) (i : Nat) : ((prt m i 4 : Nat) : Int) = wordN m i := by
  show (((((0 * 256 + (m.getD (4 * i + 0) 0).toNat) * 256 + (m.getD (4 * i + 1) 0).toNat) * 256 + (m.getD (4 * i + 2) 0).toNat) * 256 + (m.getD (4 * i + 3) 0).toNat : Nat) : Int) = _
  unfold wordN be4
  simp only [Nat.zero_mul, Nat.zero_add, Nat.add_zero]
theorem set_get {W : List Int} {i j : Nat} {x : Int} (h : i < W.length) : (W.set i x).getD j 0 = if j = i then x else W.getD j 0 := by
  rw [List.getD_eq_getElem?_getD, List.getD_eq_getElem?_getD, List.getElem?_set]
  by_cases hij : i = j
  · subst hij; simp [h]
  · rw [if_neg hij, if_neg (Ne.symm hij)]
theorem blockR_x {H : AH} {s : S8} {ks : List Int} {m : List UInt8} {v : AV} {F : Nat → Prop} (hk : ks.length = 64) (hv : IsSl RByte F H v m) (hm : m.length = 64) :
    WC Tryz.prog (tabOf Tryz.prog NT0) S0 41 [.agg (uL s.list), .agg (uL ks), v] H fun r h' => Ext H.n H h' ∧ r = .agg (uL (blkF ks s m).list) := by
  refine WC_fn Tryz.func41 rfl rfl ?_
  have v1 := hv.isSl
  have v2 := hv.lenD
  rw [hm] at v2
  obtain ⟨hA, hhA⟩ : ∃ hA, hA = H.push (.cells (uL s.list) 100) := ⟨_, rfl⟩
  have eA : Ext H.n H hA := hhA ▸ (Ext.refl _ _).push _ (Nat.le_refl _)
  have nA : hA.n = H.n + 1 := hhA ▸ n_push _ _
  have XA : hA.at H.n = some (.cells (uL s.list) 100) := hhA ▸ at_push_n _ _
  obtain ⟨hB, hhB⟩ : ∃ hB, hB = hA.push (.cells (uL ks) 103) := ⟨_, rfl⟩
  have eB : Ext hA.n hA hB := hhB ▸ (Ext.refl _ _).push _ (Nat.le_refl _)
  have nB : hB.n = hA.n + 1 := hhB ▸ n_push _ _
  have XB : hB.at hA.n = some (.cells (uL ks) 103) := hhB ▸ at_push_n _ _
  have XBA : hB.at H.n = some (.cells (uL s.list) 100) := (eB.2 _ (at_lt XA)).trans XA
  have a1 : (uL s.list).length = 8 := rfl
  have a2 : (uL s.list).take 8 = uL s.list := rfl
  have a3 := uL_ones s.list
  have a4 : (uL ks).length = 64 := by rw [uL_len]; exact hk
  have a6 := uL_ones ks
  simp only [core, zrA, zrS, zrM, zrL, zrE, reduceCtorEq, zrD, ziE, ziL, ziN, Tryz.ntmps41, a1, a3, a4, a6, ← hhA, ← hhB]
  obtain ⟨hC, hhC⟩ : ∃ hC, hC = hB.push (.cells (uL (List.replicate 8 0)) 100) := ⟨_, rfl⟩
  have eC : Ext hB.n hB hC := hhC ▸ (Ext.refl _ _).push _ (Nat.le_refl _)
  have nC : hC.n = hB.n + 1 := hhC ▸ n_push _ _
  have XC : hC.at hB.n = some (.cells (uL (List.replicate 8 0)) 100) := hhC ▸ at_push_n _ _
  have XCB : hC.at hA.n = some (.cells (uL ks) 103) := (eC.2 _ (at_lt XB)).trans XB
  have XCA : hC.at H.n = some (.cells (uL s.list) 100) := (eC.2 _ (at_lt XBA)).trans XBA
  have hz8 : AB.cells [AV.lit (Value.int IntKind.u32 0), AV.lit (Value.int IntKind.u32 0), AV.lit (Value.int IntKind.u32 0), AV.lit (Value.int IntKind.u32 0), AV.lit (Value.int IntKind.u32 0), AV.lit (Value.int IntKind.u32 0), AV.lit (Value.int IntKind.u32 0), AV.lit (Value.int IntKind.u32 0)] 100 = .cells (uL (List.replicate 8 0)) 100 := rfl
  rw [hz8, ← hhC]
  have eHC : Ext H.n H hC := (eA.trans (eB.mono (by omega))).trans (eC.mono (by omega))
  clear hz8 hhC hhB hhA
  have hvC : IsSl RByte F hC v m := hv.ext eHC (Nat.le_refl _)
  refine WB_for 16 (fun i t h => (∃ W, W.length = 64 ∧ W.take i = sched m i ∧ (∀ j, i ≤ j → W.getD j 0 = 0) ∧ h = hC.push (.cells (uL W) 103)) ∧ t.n = 180 ∧ t.get 2 = v ∧ t.get 3 = .ptr H.n 0 ∧ t.get 4 = .ptr hA.n 0 ∧ t.get 6 = .ptr hB.n 0 ∧ t.get 7 = .ptr hC.n 0 ∧ t.get 8 = .lit (.int .i64 i)) ?_ ?_ _ _ ?_
  · rintro i t h hlt hc ⟨⟨W, hW, hT, h0, rfl⟩, hn, g2, g3, g4, g6, g7, g8⟩ ih
    have hc3 : ((i : Int) < 16) = True := by simp only [eq_iff_iff, iff_true]; omega
    have hw := wrap_succ hlt (by omega)
    simp only [core, zrA, zrS, zrM, zrL, zrE, reduceCtorEq, zrD, ziE, ziL, ziN, hn, g2, g3, g4, g6, g7, g8, hc3]
    refine WB_for 4 (fun k t h => (∃ W, W.length = 64 ∧ W.take i = sched m i ∧ (∀ j, i < j → W.getD j 0 = 0) ∧ W.getD i 0 = ((prt m i k : Nat) : Int) ∧ h = hC.push (.cells (uL W) 103)) ∧ t.n = 180 ∧ t.get 2 = v ∧ t.get 3 = .ptr H.n 0 ∧ t.get 4 = .ptr hA.n 0 ∧ t.get 6 = .ptr hB.n 0 ∧ t.get 7 = .ptr hC.n 0 ∧ t.get 8 = .lit (.int .i64 i) ∧ t.get 9 = .lit (.int .i64 k)) ?_ ?_ _ _ ?_
    · rintro k t h hlk hc ⟨⟨W, hW, hT, h0, hP, rfl⟩, hn, g2, g3, g4, g6, g7, g8, g9⟩ ih2
      have hck : ((k : Int) < 4) = True := by simp only [eq_iff_iff, iff_true]; omega
      have hwk := wrap_succ hlk (by omega)
      have X : (hC.push (.cells (uL W) 103)).at hC.n = some (.cells (uL W) 103) := at_push_n _ _
      have L := ld_at (T := tabOf Tryz.prog NT0) X
      have l := at_lt X
      have hvh : IsSl RByte F (hC.push (.cells (uL W) 103)) v m := hvC.ext ((Ext.refl _ _).push _ (Nat.le_refl _)) (Nat.le_refl _)
      have hw0 : IntKind.i64.wrap (4 * (i : Int)) = ((4 * i : Nat) : Int) := (wrap_in (by omega) (by omega)).trans (by omega)
      have hw1 : IntKind.i64.wrap (((4 * i : Nat) : Int) + (k : Int)) = ((4 * i + k : Nat) : Int) := (wrap_in (by omega) (by omega)).trans (by omega)
      have B0 := byte_at (T := tabOf Tryz.prog NT0) (e := 5) hvh (by kernel_rfl) (by kernel_rfl) (i := 4 * i + k) (by omega)
      have l0 : 4 * i + k < 64 := by omega
      have l1 : i < 64 := by omega
      have gI : (uL W)[i]? = some (.lit (.int .u32 ((prt m i k : Nat) : Int))) := by rw [uL_get (by omega), hP]
      have hplt : prt m i k < 16777216 := Nat.lt_of_lt_of_le (prt_lt m i k) (Nat.pow_le_pow_right (by decide) (show k ≤ 3 by omega))
      have hbe := be1_R (x := prt m i k) (b := m.getD (4 * i + k) 0) hplt
      rw [show prt m i k * 256 + (m.getD (4 * i + k) 0).toNat = prt m i (k + 1) from rfl] at hbe
      have hp := uL_put (l := W) (i := i) (x := ((prt m i (k + 1) : Nat) : Int)) (by omega)
      simp only [corem, WB_cond_s, put, ldL, WB_label, List.nil_append, List.drop_zero, List.take_zero, zrA, zrS, zrM, zrL, zrE, reduceCtorEq, zrD, ziE, ziL, ziN, -put, hn, g2, g3, g4, g6, g7, g8, g9, hck]
      rw [WB_regionD [0, 1, 2, 3, 4, 5, 6, 7, 8, 9, 10, 11, 12, 13, 14, 15] 57894719459768763347837383107303022242921002730811594850528254541934872231936 (by kernel_rfl)]
      repeat ((with_reducible refine WDM_cons ?_; simp only [dw1]; try simp only [dw2, zrA, zrM, zrR, zrO, zrE]); simp only [corem, WB_cond_s, put, ldL, WB_label, List.nil_append, List.drop_zero, List.take_zero, zrA, zrS, zrM, zrL, zrE, reduceCtorEq, zrD, ziE, ziL, ziN, cored, -put, hn, g2, g3, g4, g6, g7, g8, g9, v1, v2, X, L, l, hw0, hw1, B0, l0, l1, gI, w32_byte, hbe, hp])
      refine ih2 _ _ ⟨⟨W.set i _, by rw [List.length_set]; exact hW, ?_, fun j hj => by rw [set_get (by omega), if_neg (by omega)]; exact h0 j hj, by rw [set_get (by omega), if_pos rfl], rfl⟩, ?_⟩
      · rw [List.take_set, List.set_eq_of_length_le (by rw [List.length_take]; omega)]
        exact hT
      simp only [core, zrA, zrS, zrM, zrL, zrE, reduceCtorEq, zrD, ziE, ziL, ziN, hn, g2, g3, g4, g6, g7, g8, g9, hwk]
    · rintro t h hc ⟨⟨W, hW, hT, h0, hP, rfl⟩, hn, g2, g3, g4, g6, g7, g8, g9⟩
      have hck : (((4 : Nat) : Int) < 4) = False := by simp
      simp only [core, zrA, zrS, zrM, zrL, zrE, reduceCtorEq, zrD, ziE, ziL, ziN, hn, g2, g3, g4, g6, g7, g8, g9, hck, hw]
      refine ih _ _ ⟨⟨W, hW, ?_, fun j hj => h0 j (by omega), rfl⟩, ?_⟩
      · rw [sched_lo m hlt, List.take_add_one, hT, List.getElem?_eq_getElem (by omega)]
        have := hP
        rw [prt_4, List.getD_eq_getElem?_getD, List.getElem?_eq_getElem (by omega)] at this
        simp only [Option.getD_some] at this
        rw [this]
        rfl
      simp only [core, zrA, zrS, zrM, zrL, zrE, reduceCtorEq, zrD, ziE, ziL, ziN, hn, g2, g3, g4, g6, g7, g8, g9, hw]
    · refine ⟨⟨W, hW, hT, fun j hj => h0 j (by omega), h0 i (Nat.le_refl _), rfl⟩, ?_⟩
      simp only [core, zrA, zrS, zrM, zrL, zrE, reduceCtorEq, zrD, ziE, ziL, ziN, hn, g2, g3, g4, g6, g7, g8]
      rfl
  · rintro t h hc ⟨⟨W, hW, hT, h0, rfl⟩, hn, g2, g3, g4, g6, g7, g8⟩
    have hc3 : (((16 : Nat) : Int) < 16) = False := by simp
    simp only [core, zrA, zrS, zrM, zrL, zrE, reduceCtorEq, zrD, ziE, ziL, ziN, hn, g2, g3, g4, g6, g7, g8, hc3]
    refine WB_for 48 (fun i t h => (∃ W, W.length = 64 ∧ W.take (16 + i) = sched m (16 + i) ∧ h = hC.push (.cells (uL W) 103)) ∧ t.n = 180 ∧ t.get 3 = .ptr H.n 0 ∧ t.get 4 = .ptr hA.n 0 ∧ t.get 6 = .ptr hB.n 0 ∧ t.get 7 = .ptr hC.n 0 ∧ t.get 10 = .lit (.int .i64 ((16 + i : Nat) : Int))) ?_ ?_ _ _ ?_
    · rintro i0 t h hlt0 hc ⟨⟨W, hW, hT, rfl⟩, hn, g3, g4, g6, g7, g10⟩ ih
      obtain ⟨i, hi⟩ : ∃ i, i = 16 + i0 := ⟨_, rfl⟩
      rw [← hi] at hT
      rw [← hi] at g10
      rw [show 16 + (i0 + 1) = i + 1 by omega] at ih
      have hlt : i < 64 := by omega
      have hc3 : ((i : Int) < 64) = True := by simp only [eq_iff_iff, iff_true]; omega
      have hw := wrap_succ hlt (by omega)
      have X : (hC.push (.cells (uL W) 103)).at hC.n = some (.cells (uL W) 103) := at_push_n _ _
      have L := ld_at (T := tabOf Tryz.prog NT0) X
      have l := at_lt X
      have hG : ∀ j, j < i → (uL W)[j]? = some (.lit (.int .u32 ((sched m i).getD j 0))) := fun j hj => by rw [uL_get (by omega), take_getD hT hj]
      have w15 : IntKind.i64.wrap ((i : Int) - 15) = ((i - 15 : Nat) : Int) := (wrap_in (by omega) (by omega)).trans (by omega)
      have w2 : IntKind.i64.wrap ((i : Int) - 2) = ((i - 2 : Nat) : Int) := (wrap_in (by omega) (by omega)).trans (by omega)
      have w16 : IntKind.i64.wrap ((i : Int) - 16) = ((i - 16 : Nat) : Int) := (wrap_in (by omega) (by omega)).trans (by omega)
      have w7 : IntKind.i64.wrap ((i : Int) - 7) = ((i - 7 : Nat) : Int) := (wrap_in (by omega) (by omega)).trans (by omega)
      have l15 : i - 15 < 64 := by omega
      have l2 : i - 2 < 64 := by omega
      have l16 : i - 16 < 64 := by omega
      have l7 : i - 7 < 64 := by omega
      have G15 := hG (i - 15) (by omega)
      have G2 := hG (i - 2) (by omega)
      have G16 := hG (i - 16) (by omega)
      have G7 := hG (i - 7) (by omega)
      have hs : wS ((sched m i).getD (i - 16) 0) ((sched m i).getD (i - 15) 0) ((sched m i).getD (i - 7) 0) ((sched m i).getD (i - 2) 0) = wS ((sched m i).getD (i - 16) 0) ((sched m i).getD (i - 15) 0) ((sched m i).getD (i - 7) 0) ((sched m i).getD (i - 2) 0) := rfl
      generalize hv0 : wS ((sched m i).getD (i - 16) 0) ((sched m i).getD (i - 15) 0) ((sched m i).getD (i - 7) 0) ((sched m i).getD (i - 2) 0) = V at hs
      have hs := hv0
      unfold wS sg0 sg1 at hs
      have hp := uL_put (l := W) (i := i) (x := V) (by omega)
      simp only [corem, WB_cond_s, put, ldL, WB_label, List.nil_append, List.drop_zero, List.take_zero, zrA, zrS, zrM, zrL, zrE, reduceCtorEq, zrD, ziE, ziL, ziN, -put, hn, g3, g4, g6, g7, g10, hc3, hw]
      rw [WB_regionD [0, 1, 2, 3, 4, 5, 6, 7, 8, 9] 632605626243743306888296530944 (by kernel_rfl)]
      repeat ((with_reducible refine WDM_cons ?_; simp only [dw1]; try simp only [dw2, zrA, zrM, zrR, zrO, zrE]); simp only [corem, WB_cond_s, put, ldL, WB_label, List.nil_append, List.drop_zero, List.take_zero, zrA, zrS, zrM, zrL, zrE, reduceCtorEq, zrD, ziE, ziL, ziN, cored, -put, hn, g3, g4, g6, g7, g10, X, L, l, w15, w2, l15, l2, G15, G2])
      rw [WB_regionD [0, 1, 2, 3, 4, 5, 7, 10, 11, 14, 15, 16, 17, 19, 21, 24, 25, 6, 8, 9, 12, 13, 18, 20, 22, 23, 26, 27, 28, 29] 4226356243181170489693065777104392463990296376764281345336884506905497646014297878447853199633595889099390758334264369180847217815158558439693119503087805952654465517384888638225425085646682448817096699189012682796773992712042952214560837722765864443832186233478111559680 (by kernel_rfl)]
      repeat ((with_reducible refine WDM_cons ?_; simp only [dw1]; try simp only [dw2, zrA, zrM, zrR, zrO, zrE]); simp only [corem, WB_cond_s, put, ldL, WB_label, List.nil_append, List.drop_zero, List.take_zero, zrA, zrS, zrM, zrL, zrE, reduceCtorEq, zrD, ziE, ziL, ziN, cored, -put, hn, g3, g4, g6, g7, g10, X, L, l, w16, w7, l16, l7, G16, G7])
      refine (turn_x (n := 7) (m := 25) (by decide +kernel) (by decide) (by decide)).mono ?_
      rintro _ _ ⟨rfl, rfl⟩
      repeat ((with_reducible refine WDM_cons ?_; simp only [dw1]; try simp only [dw2, zrA, zrM, zrR, zrO, zrE]); simp only [corem, WB_cond_s, put, ldL, WB_label, List.nil_append, List.drop_zero, List.take_zero, zrA, zrS, zrM, zrL, zrE, reduceCtorEq, zrD, ziE, ziL, ziN, cored, -put, hn, g3, g4, g6, g7, g10, X, L, l, w16, w7, l16, l7, G16, G7])
      refine (turn_x (n := 18) (m := 14) (by decide +kernel) (by decide) (by decide)).mono ?_
      rintro _ _ ⟨rfl, rfl⟩
      repeat ((with_reducible refine WDM_cons ?_; simp only [dw1]; try simp only [dw2, zrA, zrM, zrR, zrO, zrE]); simp only [corem, WB_cond_s, put, ldL, WB_label, List.nil_append, List.drop_zero, List.take_zero, zrA, zrS, zrM, zrL, zrE, reduceCtorEq, zrD, ziE, ziL, ziN, cored, -put, hn, g3, g4, g6, g7, g10, X, L, l, w16, w7, l16, l7, G16, G7])
      refine (turn_x (n := 17) (m := 15) (by decide +kernel) (by decide) (by decide)).mono ?_
      rintro _ _ ⟨rfl, rfl⟩
      repeat ((with_reducible refine WDM_cons ?_; simp only [dw1]; try simp only [dw2, zrA, zrM, zrR, zrO, zrE]); simp only [corem, WB_cond_s, put, ldL, WB_label, List.nil_append, List.drop_zero, List.take_zero, zrA, zrS, zrM, zrL, zrE, reduceCtorEq, zrD, ziE, ziL, ziN, cored, -put, hn, g3, g4, g6, g7, g10, X, L, l, w16, w7, l16, l7, G16, G7])
      refine (turn_x (n := 19) (m := 13) (by decide +kernel) (by decide) (by decide)).mono ?_
      rintro _ _ ⟨rfl, rfl⟩
      repeat ((with_reducible refine WDM_cons ?_; simp only [dw1]; try simp only [dw2, zrA, zrM, zrR, zrO, zrE]); simp only [corem, WB_cond_s, put, ldL, WB_label, List.nil_append, List.drop_zero, List.take_zero, zrA, zrS, zrM, zrL, zrE, reduceCtorEq, zrD, ziE, ziL, ziN, cored, -put, hn, g3, g4, g6, g7, g10, X, L, l, w16, w7, l16, l7, G16, G7, hs, hp, hlt])
      refine ih _ _ ⟨⟨W.set i V, by rw [List.length_set]; exact hW, by rw [set_take (by omega), hT, sched_hi m (by omega), hv0], rfl⟩, ?_⟩
      simp only [core, zrA, zrS, zrM, zrL, zrE, reduceCtorEq, zrD, ziE, ziL, ziN, hn, g3, g4, g6, g7, g10, hw]
    · rintro t h hc ⟨⟨W, hW, hT, rfl⟩, hn, g3, g4, g6, g7, g10⟩
      have hc3 : (((16 + 48 : Nat) : Int) < 64) = False := by simp
      obtain rfl : W = sched m 64 := by rw [← hT, List.take_of_length_le (by omega)]
      have hb : blkF ks s m = addS s (rndsF ks (sched m 64) s 64) := rfl
      rw [hb]
      clear hT hb
      generalize sched m 64 = ws at *
      obtain ⟨h1, hh1⟩ : ∃ h1, h1 = hC.push (.cells (uL ws) 103) := ⟨_, rfl⟩
      have e1 : Ext hC.n hC h1 := hh1 ▸ (Ext.refl _ _).push _ (Nat.le_refl _)
      have X1 : h1.at hC.n = some (.cells (uL ws) 103) := hh1 ▸ at_push_n _ _
      have P1 : h1.at H.n = some (.cells (uL s.list) 100) := (e1.2 _ (at_lt XCA)).trans XCA
      have K1 : h1.at hA.n = some (.cells (uL ks) 103) := (e1.2 _ (at_lt XCB)).trans XCB
      have R1 : h1.at hB.n = some (.cells (uL (List.replicate 8 0)) 100) := (e1.2 _ (at_lt XC)).trans XC
      have L1 := ld_at (T := tabOf Tryz.prog NT0) X1
      have L2 := ld_at (T := tabOf Tryz.prog NT0) P1
      have l1 := at_lt X1
      have l2 := at_lt P1
      have l3 := at_lt K1
      have l4 := at_lt R1
      simp only [core, zrA, zrS, zrM, zrL, zrE, reduceCtorEq, zrD, ziE, ziL, ziN, hn, g3, g4, g6, g7, g10, ← hh1, hc3, X1, P1, K1, L1, L2, l1, l2, l3, a1, a2, a3]
      refine WB_for 64 (fun i t h => h = h1.push (.cells (uL (rndsF ks ws s i).list) 100) ∧ t.n = 180 ∧ t.get 3 = .ptr H.n 0 ∧ t.get 4 = .ptr hA.n 0 ∧ t.get 6 = .ptr hB.n 0 ∧ t.get 7 = .ptr hC.n 0 ∧ t.get 13 = .ptr h1.n 0 ∧ t.get 14 = .lit (.int .i64 i)) ?_ ?_ _ _ ?_
      · rintro i t h hlt hc ⟨rfl, hn, g3, g4, g6, g7, g13, g14⟩ ih
        rw [rnds_succ] at ih
        generalize rndsF ks ws s i = S at *
        obtain ⟨a, b, c, d, e, f, g, h8⟩ := S
        have hx : uL (S8.list ⟨a, b, c, d, e, f, g, h8⟩) = [.lit (.int .u32 a), .lit (.int .u32 b), .lit (.int .u32 c), .lit (.int .u32 d), .lit (.int .u32 e), .lit (.int .u32 f), .lit (.int .u32 g), .lit (.int .u32 h8)] := rfl
        rw [hx]
        have hc3 : ((i : Int) < 64) = True := by simp only [eq_iff_iff, iff_true]; omega
        have hw := wrap_succ hlt (by omega)
        obtain ⟨hD, hhD⟩ : ∃ hD, hD = h1.push (.cells [.lit (.int .u32 a), .lit (.int .u32 b), .lit (.int .u32 c), .lit (.int .u32 d), .lit (.int .u32 e), .lit (.int .u32 f), .lit (.int .u32 g), .lit (.int .u32 h8)] 100) := ⟨_, rfl⟩
        have eD : Ext h1.n h1 hD := hhD ▸ (Ext.refl _ _).push _ (Nat.le_refl _)
        have X : hD.at h1.n = some (.cells [.lit (.int .u32 a), .lit (.int .u32 b), .lit (.int .u32 c), .lit (.int .u32 d), .lit (.int .u32 e), .lit (.int .u32 f), .lit (.int .u32 g), .lit (.int .u32 h8)] 100) := hhD ▸ at_push_n _ _
        have K : hD.at hA.n = some (.cells (uL ks) 103) := (eD.2 _ l3).trans K1
        have Y : hD.at hC.n = some (.cells (uL ws) 103) := (eD.2 _ l1).trans X1
        have L := ld_at (T := tabOf Tryz.prog NT0) X
        have l := at_lt X
        have LK := ld_at (T := tabOf Tryz.prog NT0) K
        have lK := at_lt K
        have LY := ld_at (T := tabOf Tryz.prog NT0) Y
        have lY := at_lt Y
        have hkk : (uL ks)[i]? = some (.lit (.int .u32 (ks.getD i 0))) := uL_get (by omega)
        have hww : (uL ws)[i]? = some (.lit (.int .u32 (ws.getD i 0))) := uL_get (by omega)
        simp only [core, zrA, zrS, zrM, zrL, zrE, reduceCtorEq, zrD, ziE, ziL, ziN, hn, g3, g4, g6, g7, g13, g14, hc3, hw, ← hhD, X, L, l, K, LK, lK, Y, LY, lY]
        rw [WB_regionD [0, 1, 2, 4, 7, 11, 12, 13, 14, 15, 16, 17, 18, 19, 20, 22, 23, 24, 26, 27, 28, 3, 5, 6, 8, 9, 10, 21, 25, 29, 30] 9745314004592975874873239120341868844794992775522804848856623346023934249287830229391338101872110480890113764070650296437067822049612223282205043937448955344493056740963639243205476176013398902087573462472706383466401431631195213038684839745847419819447887441007610184068762082013836476416 (by kernel_rfl)]
        repeat ((with_reducible refine WDM_cons ?_; simp only [dw1]; try simp only [dw2, zrA, zrM, zrR, zrO, zrE]); simp only [core, zrA, zrS, zrM, zrL, zrE, reduceCtorEq, zrD, ziE, ziL, ziN, cored, hn, g3, g4, g6, g7, g13, g14, X, L, l, K, LK, lK, Y, LY, lY, hlt, hkk, hww])
        refine (turn_x (n := 6) (m := 26) (by decide +kernel) (by decide) (by decide)).mono ?_
        rintro _ _ ⟨rfl, rfl⟩
        repeat ((with_reducible refine WDM_cons ?_; simp only [dw1]; try simp only [dw2, zrA, zrM, zrR, zrO, zrE]); simp only [core, zrA, zrS, zrM, zrL, zrE, reduceCtorEq, zrD, ziE, ziL, ziN, cored, hn, g3, g4, g6, g7, g13, g14, X, L, l, K, LK, lK, Y, LY, lY, hlt, hkk, hww])
        refine (turn_x (n := 11) (m := 21) (by decide +kernel) (by decide) (by decide)).mono ?_
        rintro _ _ ⟨rfl, rfl⟩
        repeat ((with_reducible refine WDM_cons ?_; simp only [dw1]; try simp only [dw2, zrA, zrM, zrR, zrO, zrE]); simp only [core, zrA, zrS, zrM, zrL, zrE, reduceCtorEq, zrD, ziE, ziL, ziN, cored, hn, g3, g4, g6, g7, g13, g14, X, L, l, K, LK, lK, Y, LY, lY, hlt, hkk, hww])
        refine (turn_x (n := 25) (m := 7) (by decide +kernel) (by decide) (by decide)).mono ?_
        rintro _ _ ⟨rfl, rfl⟩
        repeat ((with_reducible refine WDM_cons ?_; simp only [dw1]; try simp only [dw2, zrA, zrM, zrR, zrO, zrE]); simp only [core, zrA, zrS, zrM, zrL, zrE, reduceCtorEq, zrD, ziE, ziL, ziN, cored, hn, g3, g4, g6, g7, g13, g14, X, L, l, K, LK, lK, Y, LY, lY, hlt, hkk, hww])
        try simp only [core, zrA, zrS, zrM, zrL, zrE, reduceCtorEq, zrD, ziE, ziL, ziN, hn, g3, g4, g6, g7, g13, g14, X, L, l, K, LK, lK]
        rw [WB_regionD [0, 2, 5, 8, 9, 10, 11, 12, 13, 14, 15, 16, 17, 18, 19, 20, 21, 22, 1, 3, 4, 6, 7, 23, 24] 69617315882342512290703067383364087617901638685148333686487896407943819599850093686125945081267307103059438178604578030479871611404661278236147007742890756532487082902103903123016970665984 (by kernel_rfl)]
        repeat ((with_reducible refine WDM_cons ?_; simp only [dw1]; try simp only [dw2, zrA, zrM, zrR, zrO, zrE]); simp only [core, zrA, zrS, zrM, zrL, zrE, reduceCtorEq, zrD, ziE, ziL, ziN, cored, hn, g3, g4, g6, g7, g13, g14, X, L, l, K, LK, lK, Y, LY, lY, hlt, hkk, hww])
        refine (turn_x (n := 2) (m := 30) (by decide +kernel) (by decide) (by decide)).mono ?_
        rintro _ _ ⟨rfl, rfl⟩
        repeat ((with_reducible refine WDM_cons ?_; simp only [dw1]; try simp only [dw2, zrA, zrM, zrR, zrO, zrE]); simp only [core, zrA, zrS, zrM, zrL, zrE, reduceCtorEq, zrD, ziE, ziL, ziN, cored, hn, g3, g4, g6, g7, g13, g14, X, L, l, K, LK, lK, Y, LY, lY, hlt, hkk, hww])
        refine (turn_x (n := 13) (m := 19) (by decide +kernel) (by decide) (by decide)).mono ?_
        rintro _ _ ⟨rfl, rfl⟩
        repeat ((with_reducible refine WDM_cons ?_; simp only [dw1]; try simp only [dw2, zrA, zrM, zrR, zrO, zrE]); simp only [core, zrA, zrS, zrM, zrL, zrE, reduceCtorEq, zrD, ziE, ziL, ziN, cored, hn, g3, g4, g6, g7, g13, g14, X, L, l, K, LK, lK, Y, LY, lY, hlt, hkk, hww])
        refine (turn_x (n := 22) (m := 10) (by decide +kernel) (by decide) (by decide)).mono ?_
        rintro _ _ ⟨rfl, rfl⟩
        repeat ((with_reducible refine WDM_cons ?_; simp only [dw1]; try simp only [dw2, zrA, zrM, zrR, zrO, zrE]); simp only [core, zrA, zrS, zrM, zrL, zrE, reduceCtorEq, zrD, ziE, ziL, ziN, cored, hn, g3, g4, g6, g7, g13, g14, X, L, l, K, LK, lK, Y, LY, lY, hlt, hkk, hww])
        subst hhD
        refine ih _ _ ⟨by rw [put_push]; rfl, ?_⟩
        simp only [core, zrA, zrS, zrM, zrL, zrE, reduceCtorEq, zrD, ziE, ziL, ziN, hn, g3, g4, g6, g7, g13, g14, hw]
      · rintro t h hc ⟨rfl, hn, g3, g4, g6, g7, g13, g14⟩
        generalize rndsF ks ws s 64 = S at *
        have hc3 : (((64 : Nat) : Int) < 64) = False := by simp
        obtain ⟨h2, hh2⟩ : ∃ h2, h2 = h1.push (.cells (uL S.list) 100) := ⟨_, rfl⟩
        have e2 : Ext h1.n h1 h2 := hh2 ▸ (Ext.refl _ _).push _ (Nat.le_refl _)
        have X2 : h2.at h1.n = some (.cells (uL S.list) 100) := hh2 ▸ at_push_n _ _
        have P2 : h2.at H.n = some (.cells (uL s.list) 100) := (e2.2 _ l2).trans P1
        have R2 : h2.at hB.n = some (.cells (uL (List.replicate 8 0)) 100) := (e2.2 _ l4).trans R1
        have eH2 : Ext H.n H h2 := (eHC.trans (e1.mono (by omega))).trans (e2.mono (by omega))
        simp only [core, zrA, zrS, zrM, zrL, zrE, reduceCtorEq, zrD, ziE, ziL, ziN, hn, g3, g4, g6, g7, g13, g14, ← hh2, hc3]
        refine WB_for 8 (fun i t h => Ext H.n H h ∧ h.at h1.n = some (.cells (uL S.list) 100) ∧ h.at hB.n = some (.cells (uL (List.replicate 8 0)) 100) ∧ h.at H.n = some (.cells (uL (addL s.list S.list i)) 100) ∧ t.n = 180 ∧ t.get 3 = .ptr H.n 0 ∧ t.get 6 = .ptr hB.n 0 ∧ t.get 13 = .ptr h1.n 0 ∧ t.get 167 = .lit (.int .i64 i)) ?_ ?_ _ _ ?_
        · rintro i t h hlt hc ⟨y0, X, y2, y3, hn, g3, g6, g13, g167⟩ ih
          have hc3 : ((i : Int) < 8) = True := by simp only [eq_iff_iff, iff_true]; omega
          have hw := wrap_succ hlt (by omega)
          have LX := ld_at (T := tabOf Tryz.prog NT0) X
          have lX := at_lt X
          have LP := ld_at (T := tabOf Tryz.prog NT0) y3
          have lP := at_lt y3
          have g1' : (uL (addL s.list S.list i))[i]? = some (.lit (.int .u32 (s.list.getD i 0))) := by
            rw [uL_get (by rw [addL_len]; exact hlt), addL_get hlt, if_neg (by omega)]
          have g2' : (uL S.list)[i]? = some (.lit (.int .u32 (S.list.getD i 0))) := uL_get hlt
          have hp := uL_put (l := addL s.list S.list i) (i := i) (x := IntKind.u32.wrap (s.list.getD i 0 + S.list.getD i 0)) (by rw [addL_len]; exact hlt)
          rw [addL_succ hlt] at hp
          simp only [corem, WB_cond_s, put, ldL, WB_label, List.nil_append, List.drop_zero, List.take_zero, zrA, zrS, zrM, zrL, zrE, reduceCtorEq, zrD, ziE, ziL, ziN, -put, hn, g3, g6, g13, g167, hc3, hw]
          rw [WB_regionD [0, 1, 2, 3, 4, 5, 6, 7, 8] 1205375957132520870117888 (by kernel_rfl)]
          repeat ((with_reducible refine WDM_cons ?_; simp only [dw1]; try simp only [dw2, zrA, zrM, zrR, zrO, zrE]); simp only [corem, WB_cond_s, put, ldL, WB_label, List.nil_append, List.drop_zero, List.take_zero, zrA, zrS, zrM, zrL, zrE, reduceCtorEq, zrD, ziE, ziL, ziN, cored, -put, hn, g3, g6, g13, g167, X, LX, lX, y3, LP, lP, hlt, g1', g2', hp])
          refine ih _ _ ⟨y0.put _ (Nat.le_refl _), (at_put_ne _ (by omega)).trans X, (at_put_ne _ (by omega)).trans y2, at_put_same _ lP, ?_⟩
          simp only [core, zrA, zrS, zrM, zrL, zrE, reduceCtorEq, zrD, ziE, ziL, ziN, hn, g3, g6, g13, g167, hw]
        · rintro t h hc ⟨y0, y1, y2, y3, hn, g3, g6, g13, g167⟩
          have hc3 : (((8 : Nat) : Int) < 8) = False := by simp
          rw [addL_all] at y3
          have LP := ld_at (T := tabOf Tryz.prog NT0) y3
          have lP := at_lt y3
          have b1 : (uL (addS s S).list).length = 8 := rfl
          have b2 : (uL (addS s S).list).take 8 = uL (addS s S).list := rfl
          have b3 := uL_ones (addS s S).list
          have b4 : (uL (List.replicate 8 0)).length = 8 := rfl
          have b5 : (uL (List.replicate 8 0)).drop 8 = [] := rfl
          have lB := at_lt y2
          simp only [core, zrA, zrS, zrM, zrL, zrE, reduceCtorEq, zrD, ziE, ziL, ziN, hn, g3, g6, g13, g167, hc3, y2, y3, LP, lP, lB, b1, b2, b3, b4, b5]
          exact y0.put (p := hB.n) _ (by omega)
        · refine ⟨eH2, X2, R2, P2, ?_⟩
          simp only [core, zrA, zrS, zrM, zrL, zrE, reduceCtorEq, zrD, ziE, ziL, ziN, hn, g3, g4, g6, g7, g13, g14]
          rfl
      · simp only [core, zrA, zrS, zrM, zrL, zrE, reduceCtorEq, zrD, ziE, ziL, ziN, hn, g3, g4, g6, g7, g10, rnds_zero]
        rfl
    · refine ⟨⟨W, hW, hT, rfl⟩, ?_⟩
      simp only [core, zrA, zrS, zrM, zrL, zrE, reduceCtorEq, zrD, ziE, ziL, ziN, hn, g2, g3, g4, g6, g7, g8]
      rfl
  · refine ⟨⟨List.replicate 64 0, rfl, (sched_zero m).symm, fun j _ => ?_, rfl⟩, ?_⟩
    · rw [List.getD_eq_getElem?_getD, List.getElem?_replicate]
      split <;> rfl
    simp only [core, zrA, zrS, zrM, zrL, zrE, reduceCtorEq, zrD, ziE, ziL, ziN, nC]
    rfl
end Go.Proofs.YtpfibijbieblnaaGreatDoor.Ex
end

section

set_option linter.unusedSimpArgs false
set_option linter.unusedVariables false
set_option maxRecDepth 10000
set_option maxHeartbeats 8000000
namespace Go.Proofs.YtpfibijbieblnaaGreatDoor.Ex
open Go
def w64 (x : Int) : Int := IntKind.u64.wrap x
/-- A product of two halves. -/
def timHi (al ah bl bh mid cross : Int) : Int := w64 (w64 (w64 (ah * bh) + shrI .u64 mid 32) + shrI .u64 cross 32)
def timMid (al bl bh : Int) : Int := w64 (w64 (al * bh) + shrI .u64 (w64 (al * bl)) 32)
def timCross (ah bl mid : Int) : Int := w64 (w64 (ah * bl) + andI .u64 mid 4294967295)
def timesH (a b : Int) : Int :=
  timHi (andI .u64 a 4294967295) (shrI .u64 a 32) (andI .u64 b 4294967295) (shrI .u64 b 32) (timMid (andI .u64 a 4294967295) (andI .u64 b 4294967295) (shrI .u64 b 32)) (timCross (shrI .u64 a 32) (andI .u64 b 4294967295) (timMid (andI .u64 a 4294967295) (andI .u64 b 4294967295) (shrI .u64 b 32)))
def timesL (a b : Int) : Int :=
  orI .u64 (shlI .u64 (timCross (shrI .u64 a 32) (andI .u64 b 4294967295) (timMid (andI .u64 a 4294967295) (andI .u64 b 4294967295) (shrI .u64 b 32))) 32) (andI .u64 (w64 (andI .u64 a 4294967295 * andI .u64 b 4294967295)) 4294967295)
def mostI (ah al bh bl : Int) : Bool := decide (ah < bh) || (ah == bh && decide (al ≤ bl))
theorem times_x {H : AH} {a b : Int} : WC Tryz.prog (tabOf Tryz.prog NT0) S0 66 [.lit (.int .u64 a), .lit (.int .u64 b)] H fun r h' => Ext H.n H h' ∧ r = .agg [.lit (.int .u64 (timesH a b)), .lit (.int .u64 (timesL a b))] := by
  refine WC_fn Tryz.func66 rfl rfl ?_
  simp only [core, zrA, zrS, zrM, zrL, zrE, reduceCtorEq, zrD, ziE, ziL, ziN, Tryz.ntmps66]
  refine ⟨(Ext.refl _ _).push _ (Nat.le_refl _), ?_⟩
  rfl
theorem most_x {H : AH} {ah al bh bl : Int} : WC Tryz.prog (tabOf Tryz.prog NT0) S0 67 [.agg [.lit (.int .u64 ah), .lit (.int .u64 al)], .agg [.lit (.int .u64 bh), .lit (.int .u64 bl)]] H fun r h' => Ext H.n H h' ∧ r = .lit (.bool (mostI ah al bh bl)) := by
  refine WC_fn Tryz.func67 rfl rfl ?_
  simp only [core, zrA, zrS, zrM, zrL, zrE, reduceCtorEq, zrD, ziE, ziL, ziN, Tryz.ntmps67]
  cases h1 : decide (ah < bh) with
  | true =>
    simp only [core, zrA, zrS, zrM, zrL, zrE, reduceCtorEq, zrD, ziE, ziL, ziN, aundef]
    refine ⟨((Ext.refl _ _).push _ (Nat.le_refl _)).push _ (by rw [n_push]; omega), ?_⟩
    unfold mostI
    rw [h1]
    rfl
  | false =>
    cases h2 : (ah == bh) with
    | true =>
      simp only [core, zrA, zrS, zrM, zrL, zrE, reduceCtorEq, zrD, ziE, ziL, ziN, aundef, h2]
      refine ⟨((Ext.refl _ _).push _ (Nat.le_refl _)).push _ (by rw [n_push]; omega), ?_⟩
      unfold mostI
      rw [h1, h2]
      rfl
    | false =>
      simp only [core, zrA, zrS, zrM, zrL, zrE, reduceCtorEq, zrD, ziE, ziL, ziN, aundef, h2]
      refine ⟨((Ext.refl _ _).push _ (Nat.le_refl _)).push _ (by rw [n_push]; omega), ?_⟩
      unfold mostI
      rw [h1, h2]
      rfl
/-- The root's next bit is tried. -/
def bitI (r : Int) (k : Nat) : Int := orI .u64 r (shlI .u64 1 (k : Int))
def sqR (p : Int) : Nat → Int → Int
  | 0, r => r
  | k + 1, r => sqR p k (bif mostI (timesH (bitI r k) (bitI r k)) (timesL (bitI r k) (bitI r k)) p 0 then bitI r k else r)
def cbH (t : Int) : Int := w64 (w64 (timesH t t * t) + timesH (timesL t t) t)
def cbR (p : Int) : Nat → Int → Int
  | 0, r => r
  | k + 1, r => cbR p k (bif mostI (cbH (bitI r k)) (timesL (timesL (bitI r k) (bitI r k)) (bitI r k)) (shlI .u64 p 32) 0 then bitI r k else r)
def sqF (p : Int) : Int := IntKind.u32.wrap (sqR p 36 0)
def cbF (p : Int) : Int := IntKind.u32.wrap (cbR p 35 0)
theorem sqR_zero (p r : Int) : sqR p 0 r = r := rfl
theorem sqR_succ (p r : Int) (k : Nat) : sqR p (k + 1) r = sqR p k (bif mostI (timesH (bitI r k) (bitI r k)) (timesL (bitI r k) (bitI r k)) p 0 then bitI r k else r) := rfl
theorem cbR_zero (p r : Int) : cbR p 0 r = r := rfl
theorem cbR_succ (p r : Int) (k : Nat) : cbR p (k + 1) r = cbR p k (bif mostI (cbH (bitI r k)) (timesL (timesL (bitI r k) (bitI r k)) (bitI r k)) (shlI .u64 p 32) 0 then bitI r k else r) := rfl
theorem sq_all : [2, 3, 5, 7, 11, 13, 17, 19].map sqF = [1779033703, 3144134277, 1013904242, 2773480762, 1359893119, 2600822924, 528734635, 1541459225] := by decide +kernel
def prims : List Int := [2, 3, 5, 7, 11, 13, 17, 19, 23, 29, 31, 37, 41, 43, 47, 53, 59, 61, 67, 71, 73, 79, 83, 89, 97, 101, 103, 107, 109, 113, 127, 131, 137, 139, 149, 151, 157, 163, 167, 173, 179, 181, 191, 193, 197, 199, 211, 223, 227, 229, 233, 239, 241, 251, 257, 263, 269, 271, 277, 281, 283, 293, 307, 311]
def keyT : List Int := [0x428a2f98, 0x71374491, 0xb5c0fbcf, 0xe9b5dba5, 0x3956c25b, 0x59f111f1, 0x923f82a4, 0xab1c5ed5,
  0xd807aa98, 0x12835b01, 0x243185be, 0x550c7dc3, 0x72be5d74, 0x80deb1fe, 0x9bdc06a7, 0xc19bf174,
  0xe49b69c1, 0xefbe4786, 0x0fc19dc6, 0x240ca1cc, 0x2de92c6f, 0x4a7484aa, 0x5cb0a9dc, 0x76f988da,
  0x983e5152, 0xa831c66d, 0xb00327c8, 0xbf597fc7, 0xc6e00bf3, 0xd5a79147, 0x06ca6351, 0x14292967,
  0x27b70a85, 0x2e1b2138, 0x4d2c6dfc, 0x53380d13, 0x650a7354, 0x766a0abb, 0x81c2c92e, 0x92722c85,
  0xa2bfe8a1, 0xa81a664b, 0xc24b8b70, 0xc76c51a3, 0xd192e819, 0xd6990624, 0xf40e3585, 0x106aa070,
  0x19a4c116, 0x1e376c08, 0x2748774c, 0x34b0bcb5, 0x391c0cb3, 0x4ed8aa4a, 0x5b9cca4f, 0x682e6ff3,
  0x748f82ee, 0x78a5636f, 0x84c87814, 0x8cc70208, 0x90befffa, 0xa4506ceb, 0xbef9a3f7, 0xc67178f2]
theorem cb_all : prims.map cbF = keyT := by decide +kernel
/-- The numbers from 2 on that none of the earlier ones divides. -/
def prL : Nat → List Int
  | 0 => []
  | n + 1 => bif (prL n).all (fun q => !(((n + 2 : Nat) : Int).tmod q == 0)) then prL n ++ [((n + 2 : Nat) : Int)] else prL n
theorem prL_zero : prL 0 = [] := rfl
theorem prL_succ (n : Nat) : prL (n + 1) = bif (prL n).all (fun q => !(((n + 2 : Nat) : Int).tmod q == 0)) then prL n ++ [((n + 2 : Nat) : Int)] else prL n := rfl
theorem prL_mono (n : Nat) : (prL n).length ≤ (prL (n + 1)).length := by
  rw [prL_succ]
  cases (prL n).all _ with
  | true => simp
  | false => exact Nat.le_refl _
theorem prL_le {n m : Nat} (h : n ≤ m) : (prL n).length ≤ (prL m).length := by
  induction h with
  | refl => exact Nat.le_refl _
  | step _ ih => exact Nat.le_trans ih (prL_mono _)
theorem prL_309 : (prL 309).length = 63 := by decide +kernel
theorem prL_310 : prL 310 = prims := by decide +kernel
theorem prL_pos (n : Nat) : ∀ x ∈ prL n, 2 ≤ x := by
  induction n with
  | zero => intro x hx; cases hx
  | succ n ih =>
    intro x hx
    rw [prL_succ] at hx
    revert hx
    cases (prL n).all _ with
    | true =>
      intro hx
      rcases List.mem_append.1 hx with h | h
      · exact ih x h
      · have := List.mem_singleton.1 h; omega
    | false => exact ih x
attribute [irreducible] sqR cbR prL sqF cbF
theorem sqF_eq (p : Int) : sqF p = IntKind.u32.wrap (sqR p 36 0) := by unfold sqF; rfl
theorem cbF_eq (p : Int) : cbF p = IntKind.u32.wrap (cbR p 35 0) := by unfold cbF; rfl
end Go.Proofs.YtpfibijbieblnaaGreatDoor.Ex
end

section

set_option linter.unusedSimpArgs false
set_option linter.unusedVariables false
set_option maxRecDepth 10000
set_option maxHeartbeats 8000000
namespace Go.Proofs.YtpfibijbieblnaaGreatDoor.Ex
open Go
theorem square_x {H : AH} {p : Int} : WC Tryz.prog (tabOf Tryz.prog NT0) S0 39 [.lit (.int .u64 p)] H fun r h' => Ext H.n H h' ∧ r = .lit (.int .u32 (sqF p)) := by
  refine WC_fn Tryz.func39 rfl rfl ?_
  simp only [core, zrA, zrS, zrM, zrL, zrE, reduceCtorEq, zrD, ziE, ziL, ziN, Tryz.ntmps39]
  refine WB_ind (fun (x : Nat × Int) t h => x.1 ≤ 36 ∧ Ext H.n H h ∧ sqR p x.1 x.2 = sqR p 36 0 ∧ t.n = 24 ∧ t.get 0 = .lit (.int .u64 p) ∧ t.get 3 = .lit (.int .u64 x.2) ∧ t.get 4 = .lit (.int .i64 ((x.1 : Int) - 1))) (fun x => x.1) ?_ (36, 0) _ _ ?_
  · rintro ⟨n, r⟩ t h ⟨hn36, E, hR, hn, g0, g3, g4⟩ ih
    cases n with
    | zero =>
      have hc : ((0 : Int) ≤ ((0 : Nat) : Int) - 1) = False := by simp
      rw [sqR_zero] at hR
      simp only [core, zrA, zrS, zrM, zrL, zrE, reduceCtorEq, zrD, ziE, ziL, ziN, hn, g0, g3, g4, hc]
      exact ⟨E, by rw [sqF_eq, ← hR]⟩
    | succ k =>
      have hk : (((k + 1 : Nat) : Int) - 1) = (k : Int) := by omega
      have hc : ((0 : Int) ≤ (k : Int)) = True := by simp
      have hw : IntKind.u64.wrap (k : Int) = (k : Int) := wrap_u64 (by omega) (by omega)
      have hw2 : IntKind.i64.wrap ((k : Int) - 1) = (k : Int) - 1 := wrap_in (by omega) (by omega)
      have s1 : ∀ {P : Program} {e : TypeId}, pur P (binOp .shl e (.int .u64 1) (.int .u64 (k : Int))) = some (.ok (.int .u64 (shlI .u64 1 (k : Int)))) := pb_shl (by omega)
      have hb : orI .u64 r (shlI .u64 1 (k : Int)) = bitI r k := rfl
      simp only [core, zrA, zrS, zrM, zrL, zrE, reduceCtorEq, zrD, ziE, ziL, ziN, hn, g0, g3, g4, hk, hc, hw, s1, hb]
      refine times_x.mono ?_
      rintro _ h1 ⟨e1, rfl⟩
      simp only [core, zrA, zrS, zrM, zrL, zrE, reduceCtorEq, zrD, ziE, ziL, ziN, hn, g0, g3, g4]
      refine most_x.mono ?_
      rintro _ h2 ⟨e2, rfl⟩
      rw [sqR_succ] at hR
      have E2 := (E.trans (e1.mono E.1)).trans (e2.mono (Nat.le_trans E.1 e1.1))
      cases hm : mostI (timesH (bitI r k) (bitI r k)) (timesL (bitI r k) (bitI r k)) p 0 with
      | true =>
        rw [hm] at hR
        simp only [core, zrA, zrS, zrM, zrL, zrE, reduceCtorEq, zrD, ziE, ziL, ziN, hn, g0, g3, g4, hk, hw2]
        refine ih (k, bitI r k) _ _ ⟨by show k ≤ 36; omega, E2, hR, ?_⟩ (Nat.lt_succ_self k)
        simp only [core, zrA, zrS, zrM, zrL, zrE, reduceCtorEq, zrD, ziE, ziL, ziN, hn, g0, g3, g4]
      | false =>
        rw [hm] at hR
        simp only [core, zrA, zrS, zrM, zrL, zrE, reduceCtorEq, zrD, ziE, ziL, ziN, hn, g0, g3, g4, hk, hw2]
        refine ih (k, r) _ _ ⟨by show k ≤ 36; omega, E2, hR, ?_⟩ (Nat.lt_succ_self k)
        simp only [core, zrA, zrS, zrM, zrL, zrE, reduceCtorEq, zrD, ziE, ziL, ziN, hn, g0, g3, g4]
  · refine ⟨Nat.le_refl _, Ext.refl _ _, rfl, ?_⟩
    simp only [core, zrA, zrS, zrM, zrL, zrE, reduceCtorEq, zrD, ziE, ziL, ziN]
    first | rfl | exact ⟨trivial, rfl⟩
theorem cube_x {H : AH} {p : Int} : WC Tryz.prog (tabOf Tryz.prog NT0) S0 40 [.lit (.int .u64 p)] H fun r h' => Ext H.n H h' ∧ r = .lit (.int .u32 (cbF p)) := by
  refine WC_fn Tryz.func40 rfl rfl ?_
  simp only [core, zrA, zrS, zrM, zrL, zrE, reduceCtorEq, zrD, ziE, ziL, ziN, Tryz.ntmps40]
  refine WB_ind (fun (x : Nat × Int) t h => x.1 ≤ 35 ∧ Ext H.n H h ∧ cbR p x.1 x.2 = cbR p 35 0 ∧ t.n = 43 ∧ t.get 0 = .lit (.int .u64 p) ∧ t.get 3 = .lit (.int .u64 x.2) ∧ t.get 4 = .lit (.int .i64 ((x.1 : Int) - 1))) (fun x => x.1) ?_ (35, 0) _ _ ?_
  · rintro ⟨n, r⟩ t h ⟨hn36, E, hR, hn, g0, g3, g4⟩ ih
    cases n with
    | zero =>
      have hc : ((0 : Int) ≤ ((0 : Nat) : Int) - 1) = False := by simp
      rw [cbR_zero] at hR
      simp only [core, zrA, zrS, zrM, zrL, zrE, reduceCtorEq, zrD, ziE, ziL, ziN, hn, g0, g3, g4, hc]
      exact ⟨E, by rw [cbF_eq, ← hR]⟩
    | succ k =>
      have hk : (((k + 1 : Nat) : Int) - 1) = (k : Int) := by omega
      have hc : ((0 : Int) ≤ (k : Int)) = True := by simp
      have hw : IntKind.u64.wrap (k : Int) = (k : Int) := wrap_u64 (by omega) (by omega)
      have hw2 : IntKind.i64.wrap ((k : Int) - 1) = (k : Int) - 1 := wrap_in (by omega) (by omega)
      have s1 : ∀ {P : Program} {e : TypeId}, pur P (binOp .shl e (.int .u64 1) (.int .u64 (k : Int))) = some (.ok (.int .u64 (shlI .u64 1 (k : Int)))) := pb_shl (by omega)
      have hb : orI .u64 r (shlI .u64 1 (k : Int)) = bitI r k := rfl
      rw [cbR_succ] at hR
      generalize bitI r k = b at *
      simp only [core, zrA, zrS, zrM, zrL, zrE, reduceCtorEq, zrD, ziE, ziL, ziN, hn, g0, g3, g4, hk, hc, hw, s1, hb]
      refine times_x.mono ?_
      rintro _ h1 ⟨e1, rfl⟩
      obtain ⟨h1', hh1⟩ : ∃ h', h' = h1.push (.cells [.lit (.int .u64 (timesH b b)), .lit (.int .u64 (timesL b b))] 136) := ⟨_, rfl⟩
      have e1' : Ext h1.n h1 h1' := hh1 ▸ (Ext.refl _ _).push _ (Nat.le_refl _)
      have X1 : h1'.at h1.n = some (.cells [.lit (.int .u64 (timesH b b)), .lit (.int .u64 (timesL b b))] 136) := hh1 ▸ at_push_n _ _
      have L1 := ld_at (T := tabOf Tryz.prog NT0) X1
      have l1 := at_lt X1
      simp only [core, zrA, zrS, zrM, zrL, zrE, reduceCtorEq, zrD, ziE, ziL, ziN, hn, g0, g3, g4, ← hh1, L1, l1]
      refine times_x.mono ?_
      rintro _ h2 ⟨e2, rfl⟩
      have X2 : h2.at h1.n = _ := (e2.2 _ l1).trans X1
      obtain ⟨h2', hh2⟩ : ∃ h', h' = h2.push (.cells [.lit (.int .u64 (timesH (timesL b b) b)), .lit (.int .u64 (timesL (timesL b b) b))] 136) := ⟨_, rfl⟩
      have e2' : Ext h2.n h2 h2' := hh2 ▸ (Ext.refl _ _).push _ (Nat.le_refl _)
      have X3 : h2'.at h2.n = some (.cells [.lit (.int .u64 (timesH (timesL b b) b)), .lit (.int .u64 (timesL (timesL b b) b))] 136) := hh2 ▸ at_push_n _ _
      have X2' : h2'.at h1.n = _ := (e2'.2 _ (at_lt X2)).trans X2
      have L2 := ld_at (T := tabOf Tryz.prog NT0) X2'
      have l2 := at_lt X2'
      have L3 := ld_at (T := tabOf Tryz.prog NT0) X3
      have l3 := at_lt X3
      simp only [core, zrA, zrS, zrM, zrL, zrE, reduceCtorEq, zrD, ziE, ziL, ziN, hn, g0, g3, g4, ← hh2, L2, l2, L3, l3]
      refine most_x.mono ?_
      rintro _ h3 ⟨e3, rfl⟩
      have n1 := e1.1
      have n1' := e1'.1
      have n2 := e2.1
      have n2' := e2'.1
      have n0 := E.1
      have E2 : Ext H.n H h3 := ((((E.trans (e1.mono n0)).trans (e1'.mono (by omega))).trans (e2.mono (by omega))).trans (e2'.mono (by omega))).trans (e3.mono (by omega))
      have hcb : w64 (w64 (timesH b b * b) + timesH (timesL b b) b) = cbH b := rfl
      unfold w64 at hcb
      rw [hcb]
      cases hm : mostI (cbH b) (timesL (timesL b b) b) (shlI .u64 p 32) 0 with
      | true =>
        rw [hm] at hR
        simp only [core, zrA, zrS, zrM, zrL, zrE, reduceCtorEq, zrD, ziE, ziL, ziN, hn, g0, g3, g4, hk, hw2]
        refine ih (k, b) _ _ ⟨by show k ≤ 35; omega, E2, hR, ?_⟩ (Nat.lt_succ_self k)
        simp only [core, zrA, zrS, zrM, zrL, zrE, reduceCtorEq, zrD, ziE, ziL, ziN, hn, g0, g3, g4]
      | false =>
        rw [hm] at hR
        simp only [core, zrA, zrS, zrM, zrL, zrE, reduceCtorEq, zrD, ziE, ziL, ziN, hn, g0, g3, g4, hk, hw2]
        refine ih (k, r) _ _ ⟨by show k ≤ 35; omega, E2, hR, ?_⟩ (Nat.lt_succ_self k)
        simp only [core, zrA, zrS, zrM, zrL, zrE, reduceCtorEq, zrD, ziE, ziL, ziN, hn, g0, g3, g4]
  · refine ⟨Nat.le_refl _, Ext.refl _ _, rfl, ?_⟩
    simp only [core, zrA, zrS, zrM, zrL, zrE, reduceCtorEq, zrD, ziE, ziL, ziN]
    first | rfl | exact ⟨trivial, rfl⟩
/-- Rows of numbers of 64 bits without a sign. -/
def RU64 : Rep Int where
  z := 1
  is _ _ c x := c = [.lit (.int .u64 x)]
  len := fun h => by subst h; rfl
  one := fun h v hv => by subst h; simp at hv; subst hv; rfl
  lift := fun h _ => h
abbrev OwnU (n0 : Nat) (h : AH) (v : AV) (xs : List Int) : Prop := OwnL RU64 (fun _ => False) n0 h v 102 xs
theorem push_u {n0 q : Nat} {h : AH} {v : AV} {xs : List Int} {x : Int} {cap : Cap} {e' : TypeId} (ho : OwnU n0 h v xs) (hn0 : n0 ≤ h.n) (A : h.at q = some (.cells [.lit (.int .u64 x)] e')) (hl : xs.length ≤ 1000000000000) :
    ∃ s' h', appendA (tabOf Tryz.prog NT0) h 98 98 v (.sl q 0 1 cap) = some (s', h') ∧ OwnU n0 h' s' (xs ++ [x]) ∧ Ext n0 h h' := by
  obtain ⟨s', h', a, b, c, d⟩ := ho.snoc (T := tabOf Tryz.prog NT0) (t := 98) (tx := 98) (y := x) (cap := cap) (by kernel_rfl) (by kernel_rfl) (by kernel_rfl) (zv := .lit (.int .u64 0)) (by kernel_rfl) (by' := 8) (by kernel_rfl) (by kernel_rfl) (by decide) (by decide) A rfl (by omega) (by omega) hn0
  exact ⟨s', h', a, b, c⟩
theorem u_at {F : Nat → Prop} {h : AH} {v : AV} {xs : List Int} (hs : IsSl RU64 F h v xs) {i : Nat} (hi : i < xs.length) :
    loadA (tabOf Tryz.prog NT0) h 102 (slB v) (slO v + i) = some (.lit (.int .u64 (xs.getD i 0))) := by
  obtain ⟨c, hc, h2⟩ := hs.get (T := tabOf Tryz.prog NT0) (List.getElem?_eq_getElem hi)
  obtain rfl : c = [.lit (.int .u64 xs[i])] := hc
  have hA : isAggT (tabOf Tryz.prog NT0) 102 = some false := by kernel_rfl
  have hS : sizeT (tabOf Tryz.prog NT0) 102 = some 1 := by kernel_rfl
  have := h2 102 1 0 hS (by omega) (by show 0 + 1 ≤ 1; omega)
  simp only [RU64, Nat.mul_one, Nat.add_zero] at this
  rw [this]
  simp [ldL, hA, hS, List.getD_eq_getElem?_getD, List.getElem?_eq_getElem hi]
theorem all_take {f : Int → Bool} {l : List Int} {i : Nat} (h : i < l.length) : (l.take (i + 1)).all f = ((l.take i).all f && f (l.getD i 0)) := by
  rw [List.take_add_one, List.all_append, List.getElem?_eq_getElem h, List.getD_eq_getElem?_getD, List.getElem?_eq_getElem h]
  simp
theorem primes_x {H : AH} : WC Tryz.prog (tabOf Tryz.prog NT0) S0 38 [.lit (.int .i64 64)] H fun r h' => Ext H.n H h' ∧ OwnU H.n h' r prims := by
  refine WC_fn Tryz.func38 rfl rfl ?_
  simp only [core, zrA, zrS, zrM, zrL, zrE, reduceCtorEq, zrD, ziE, ziL, ziN, Tryz.ntmps38]
  refine WB_ind (fun (n : Nat) t h => n ≤ 310 ∧ Ext H.n H h ∧ ∃ v, OwnU H.n h v (prL n) ∧ t.n = 31 ∧ t.get 0 = .lit (.int .i64 64) ∧ t.get 3 = v ∧ t.get 4 = .lit (.int .u64 ((n + 2 : Nat) : Int))) (fun n => 310 - n) ?_ 0 _ _ ?_
  · rintro n t h ⟨hn310, E, v, ho, hn, g0, g3, g4⟩ ih
    have v1 := ho.isSl
    have v2 := ho.lenD
    have v3 := ho.one
    by_cases h310 : n = 310
    · subst h310
      rw [prL_310] at v2 ho
      have hc : ((prims.length : Int) < 64) = False := by decide
      simp only [core, zrA, zrS, zrM, zrL, zrE, reduceCtorEq, zrD, ziE, ziL, ziN, hn, g0, g3, g4, v1, v2, v3, hc]
      exact ⟨E, ho⟩
    · have hlen : (prL n).length < 64 := by
        have := prL_le (n := n) (m := 309) (by omega)
        rw [prL_309] at this
        omega
      have hc : (((prL n).length : Int) < 64) = True := by simp only [eq_iff_iff, iff_true]; omega
      simp only [core, zrA, zrS, zrM, zrL, zrE, reduceCtorEq, zrD, ziE, ziL, ziN, hn, g0, g3, g4, v1, v2, v3, hc]
      have hF : IsSl RU64 (fun b => H.n ≤ b) h v (prL n) := ho.toSl (fun _ hf => hf.elim) fun _ hb => hb
      refine WB_for (prL n).length (fun i t h' => h' = h ∧ t.n = 31 ∧ t.get 0 = .lit (.int .i64 64) ∧ t.get 3 = v ∧ t.get 4 = .lit (.int .u64 ((n + 2 : Nat) : Int)) ∧ t.get 5 = .lit (.bool (((prL n).take i).all (fun q => !(((n + 2 : Nat) : Int).tmod q == 0)))) ∧ t.get 14 = v ∧ t.get 15 = .lit (.int .i64 (prL n).length) ∧ t.get 16 = .lit (.int .i64 i)) ?_ ?_ _ _ ?_
      · rintro i t h' hlt hc2 ⟨rfl, hn, g0, g3, g4, g5, g14, g15, g16⟩ ih2
        have hw := wrap_succ hlt (by omega)
        have hld := u_at hF hlt
        have hc3 : ((i : Int) < ((prL n).length : Int)) = True := by simp only [eq_iff_iff, iff_true]; omega
        have hp := prL_pos n ((prL n).getD i 0) (by rw [List.getD_eq_getElem?_getD, List.getElem?_eq_getElem hlt]; exact List.getElem_mem hlt)
        have hz : ((prL n).getD i 0 = 0) = False := by simp only [eq_iff_iff, iff_false]; omega
        have hall := all_take (f := fun q => !(((n + 2 : Nat) : Int).tmod q == 0)) hlt
        cases hq : (((n + 2 : Nat) : Int).tmod ((prL n).getD i 0) == 0) with
        | true =>
          simp only [core, zrA, zrS, zrM, zrL, zrE, reduceCtorEq, zrD, ziE, ziL, ziN, hn, g0, g3, g4, g5, g14, g15, g16, v1, v2, v3, hc3, hlt, hld, hw, hz, hq]
          refine ih2 _ _ ⟨rfl, ?_⟩
          simp only [core, zrA, zrS, zrM, zrL, zrE, reduceCtorEq, zrD, ziE, ziL, ziN, hn, g0, g3, g4, g5, g14, g15, g16]
          rw [hall]
          simp only [hq, Bool.not_true, Bool.and_false]
        | false =>
          simp only [core, zrA, zrS, zrM, zrL, zrE, reduceCtorEq, zrD, ziE, ziL, ziN, hn, g0, g3, g4, g5, g14, g15, g16, v1, v2, v3, hc3, hlt, hld, hw, hz, hq]
          refine ih2 _ _ ⟨rfl, ?_⟩
          simp only [core, zrA, zrS, zrM, zrL, zrE, reduceCtorEq, zrD, ziE, ziL, ziN, hn, g0, g3, g4, g5, g14, g15, g16]
          rw [hall]
          simp only [hq, Bool.not_false, Bool.and_true]
      · rintro t h' hc2 ⟨rfl, hn, g0, g3, g4, g5, g14, g15, g16⟩
        have hc3 : (((prL n).length : Int) < ((prL n).length : Int)) = False := by simp
        rw [List.take_length] at g5
        have hs := prL_succ n
        have hw2 : IntKind.u64.wrap (((n + 2 : Nat) : Int) + 1) = ((n + 1 + 2 : Nat) : Int) := (wrap_u64 (by omega) (by omega)).trans (by omega)
        cases ha : (prL n).all (fun q => !(((n + 2 : Nat) : Int).tmod q == 0)) with
        | true =>
          rw [ha] at g5 hs
          have e5 : Ext h'.n h' (h'.push (.cells [.lit (.int .u64 ((n + 2 : Nat) : Int))] 102)) := (Ext.refl _ _).push _ (Nat.le_refl _)
          simp only [core, zrA, zrS, zrM, zrL, zrE, reduceCtorEq, zrD, ziE, ziL, ziN, hn, g0, g3, g4, g5, g14, g15, g16, v1, v2, v3, hc3]
          refine WOp_app (push_u (ho.ext e5 (Nat.le_refl _)) (by rw [n_push]; have := E.1; omega) (at_push_n h' _) (by omega)) ?_
          rintro s6 h6 ⟨o6, e6⟩
          have u6 := o6.one
          have E6 : Ext H.n H h6 := (E.trans (e5.mono E.1)).trans e6
          simp only [core, zrA, zrS, zrM, zrL, zrE, reduceCtorEq, zrD, ziE, ziL, ziN, hn, g0, g3, g4, g5, g14, g15, g16, u6, hw2]
          refine ih (n + 1) _ _ ⟨by omega, E6, s6, ?_, ?_⟩ (by omega)
          · rw [hs]
            exact o6
          · simp only [core, zrA, zrS, zrM, zrL, zrE, reduceCtorEq, zrD, ziE, ziL, ziN, hn, g0, g3, g4, g5, g14, g15, g16]
        | false =>
          rw [ha] at g5 hs
          simp only [core, zrA, zrS, zrM, zrL, zrE, reduceCtorEq, zrD, ziE, ziL, ziN, hn, g0, g3, g4, g5, g14, g15, g16, v1, v2, v3, hc3, hw2]
          refine ih (n + 1) _ _ ⟨by omega, E, v, ?_, ?_⟩ (by omega)
          · rw [hs]
            exact ho
          · simp only [core, zrA, zrS, zrM, zrL, zrE, reduceCtorEq, zrD, ziE, ziL, ziN, hn, g0, g3, g4, g5, g14, g15, g16]
      · simp only [core, zrA, zrS, zrM, zrL, zrE, reduceCtorEq, zrD, ziE, ziL, ziN, hn, g0, g3, g4]
        rfl
  · refine ⟨Nat.zero_le _, Ext.refl _ _, _, by rw [prL_zero]; exact OwnL.nil, ?_⟩
    simp only [core, zrA, zrS, zrM, zrL, zrE, reduceCtorEq, zrD, ziE, ziL, ziN]
    rfl
theorem rounds_x {H : AH} : WC Tryz.prog (tabOf Tryz.prog NT0) S0 64 [] H fun r h' => Ext H.n H h' ∧ r = .agg (uL keyT) := by
  refine WC_fn Tryz.func64 rfl rfl ?_
  simp only [core, zrA, zrS, zrM, zrL, zrE, reduceCtorEq, zrD, ziE, ziL, ziN, Tryz.ntmps64]
  exact ⟨(Ext.refl _ _).push _ (Nat.le_refl _), rfl⟩
end Go.Proofs.YtpfibijbieblnaaGreatDoor.Ex
end

section

set_option linter.unusedSimpArgs false
set_option linter.unusedVariables false
set_option maxRecDepth 10000
set_option maxHeartbeats 8000000
namespace Go.Proofs.YtpfibijbieblnaaGreatDoor.Ex
open Go
def u8L (l : List Int) : List AV := l.map fun n => .lit (.int .u8 n)
theorem u8L_len (l : List Int) : (u8L l).length = l.length := List.length_map ..
theorem u8L_put {l : List Int} {i : Nat} {x : Int} (h : i < l.length) : put (u8L l) i [.lit (.int .u8 x)] = some (u8L (l.set i x)) := by
  unfold put
  rw [if_pos (by rw [u8L_len]; exact h)]
  unfold u8L
  rw [List.map_set, List.set_eq_take_append_cons_drop, if_pos (by rw [List.length_map]; exact h)]
  simp
theorem u8L_ones : ∀ l : List Int, (u8L l).all AV.one = true
  | [] => rfl
  | x :: r => by show (true && (u8L r).all AV.one) = true; rw [u8L_ones r]; rfl
/-- The state that SHA-256 begins with. -/
def h0S : S8 := ⟨1779033703, 3144134277, 1013904242, 2773480762, 1359893119, 2600822924, 528734635, 1541459225⟩
def outB (S : List Int) (i : Nat) : Int := IntKind.u8.wrap (shrI .u32 (S.getD (i / 4) 0) ((24 - 8 * (i % 4) : Nat) : Int))
def outW (S : List Int) : List Int := (List.range 32).map (outB S)
def shaF (b : List UInt8) : List Int := outW (blksF keyT (padF b) h0S ((padF b).length / 64)).list
theorem outW_len (S : List Int) : (outW S).length = 32 := by simp [outW]
theorem shaF_len (b : List UInt8) : (shaF b).length = 32 := outW_len _
theorem shaF_eq (b : List UInt8) {n : Nat} (hn : (padF b).length / 64 = n) : shaF b = outW (blksF keyT (padF b) h0S n).list := by rw [← hn]; rfl
theorem outW_take {S W : List Int} {i : Nat} (hT : W.take i = (outW S).take i) (hi : i < W.length) (h32 : i < 32) : (W.set i (outB S i)).take (i + 1) = (outW S).take (i + 1) := by
  rw [set_take hi, hT]
  conv => rhs; rw [List.take_add_one]
  unfold outW
  rw [List.getElem?_map, List.getElem?_range h32]
  rfl
theorem padF_len (b : List UInt8) : (padF b).length = b.length + 1 + padN b.length + 8 := by
  unfold padF
  simp only [List.length_append, List.length_replicate, List.length_map, List.length_range, List.length_cons, List.length_nil]
def lenB (n i : Nat) : UInt8 := UInt8.ofNat (n * 8 / 2 ^ (56 - 8 * i))
theorem padF_eq (b : List UInt8) : padF b = b ++ [128] ++ List.replicate (padN b.length) 0 ++ (List.range 8).map (lenB b.length) := rfl
attribute [irreducible] shaF outW
abbrev OwnY (n0 : Nat) (h : AH) (v : AV) (xs : List UInt8) : Prop := OwnL RByte (fun _ => False) n0 h v 5 xs
theorem push_y {n0 q : Nat} {h : AH} {v : AV} {xs : List UInt8} {x : Int} {y : UInt8} {cap : Cap} {e' : TypeId} (ho : OwnY n0 h v xs) (hn0 : n0 ≤ h.n) (A : h.at q = some (.cells [.lit (.int .u8 x)] e')) (hx : (y.toNat : Int) = x) (hl : xs.length ≤ 1000000000000) :
    ∃ s' h', appendA (tabOf Tryz.prog NT0) h 23 23 v (.sl q 0 1 cap) = some (s', h') ∧ OwnY n0 h' s' (xs ++ [y]) ∧ Ext n0 h h' := by
  obtain ⟨s', h', a, b, c, d⟩ := ho.snoc (T := tabOf Tryz.prog NT0) (t := 23) (tx := 23) (y := y) (cap := cap) (by kernel_rfl) (by kernel_rfl) (by kernel_rfl) (zv := .lit (.int .u8 0)) (by kernel_rfl) (by' := 1) (by kernel_rfl) (by kernel_rfl) (by decide) (by decide) A (by rw [← hx]; rfl) (by omega) (by omega) hn0
  exact ⟨s', h', a, b, c⟩
theorem cat_y {n0 : Nat} {h : AH} {v x : AV} {xs ys : List UInt8} {F : Nat → Prop} (ho : OwnY n0 h v xs) (hx : IsSl RByte F h x ys) (hl : xs.length + ys.length ≤ 1000000000000) (hn0 : n0 ≤ h.n) :
    ∃ s' h', appendA (tabOf Tryz.prog NT0) h 23 23 v x = some (s', h') ∧ OwnY n0 h' s' (xs ++ ys) ∧ Ext n0 h h' := by
  obtain ⟨M, h1, h2, h3, h4⟩ := hx.out
  obtain ⟨s', h', a, b, c, d⟩ := ho.append (T := tabOf Tryz.prog NT0) (t := 23) (tx := 23) (x := x) (M := M) (ys := ys) (by kernel_rfl) (by kernel_rfl) (by kernel_rfl) (zv := .lit (.int .u8 0)) (by kernel_rfl) (by' := 1) (by kernel_rfl) (by kernel_rfl) (by decide) (by decide) h1.src h1.len ⟨h4.1, fun i c x e1 e2 => h4.2 i c x e1 e2⟩ (by omega) (by omega) hn0
  exact ⟨s', h', a, b, c⟩
theorem len_byte {n i : Nat} (hn : n ≤ 1000000000000) (hi : i < 8) : IntKind.u8.wrap (shrI .u64 ((n * 8 : Nat) : Int) ((56 - 8 * i : Nat) : Int)) = ((lenB n i).toNat : Int) := by
  unfold lenB shrI
  rw [IntKind.wrap_u8, UInt8.toNat_ofNat', Int.toNat_natCast]
  have h1 : min (56 - 8 * i) (IntKind.bits .u64) = 56 - 8 * i := by show min _ 64 = _; omega
  rw [h1]
  have h2 : ((2 ^ (56 - 8 * i) : Nat) : Int) = (2 : Int) ^ (56 - 8 * i) := by exact Int.natCast_pow 2 _
  rw [← h2, Int.fdiv_eq_ediv_of_nonneg _ (Int.natCast_nonneg _)]
  rw [← Int.natCast_ediv]
  omega
theorem sum256_x {H : AH} {v : AV} {b : List UInt8} {F : Nat → Prop} (hv : IsSl RByte F H v b) (hb : b.length ≤ 1000000000) :
    WC Tryz.prog (tabOf Tryz.prog NT0) S0 37 [v] H fun r h' => Ext H.n H h' ∧ r = .agg (u8L (shaF b)) := by
  refine WC_fn Tryz.func37 rfl rfl ?_
  obtain ⟨hA, hhA⟩ : ∃ hA, hA = H.push (.cells (u8L (List.replicate 32 0)) 46) := ⟨_, rfl⟩
  have eA : Ext H.n H hA := hhA ▸ (Ext.refl _ _).push _ (Nat.le_refl _)
  have nA : hA.n = H.n + 1 := hhA ▸ n_push _ _
  have XA : hA.at H.n = some (.cells (u8L (List.replicate 32 0)) 46) := hhA ▸ at_push_n _ _
  have hz32 : AB.cells [AV.lit (Value.int IntKind.u8 0), AV.lit (Value.int IntKind.u8 0), AV.lit (Value.int IntKind.u8 0), AV.lit (Value.int IntKind.u8 0), AV.lit (Value.int IntKind.u8 0), AV.lit (Value.int IntKind.u8 0), AV.lit (Value.int IntKind.u8 0), AV.lit (Value.int IntKind.u8 0), AV.lit (Value.int IntKind.u8 0), AV.lit (Value.int IntKind.u8 0), AV.lit (Value.int IntKind.u8 0), AV.lit (Value.int IntKind.u8 0), AV.lit (Value.int IntKind.u8 0), AV.lit (Value.int IntKind.u8 0), AV.lit (Value.int IntKind.u8 0), AV.lit (Value.int IntKind.u8 0), AV.lit (Value.int IntKind.u8 0), AV.lit (Value.int IntKind.u8 0), AV.lit (Value.int IntKind.u8 0), AV.lit (Value.int IntKind.u8 0), AV.lit (Value.int IntKind.u8 0), AV.lit (Value.int IntKind.u8 0), AV.lit (Value.int IntKind.u8 0), AV.lit (Value.int IntKind.u8 0), AV.lit (Value.int IntKind.u8 0), AV.lit (Value.int IntKind.u8 0), AV.lit (Value.int IntKind.u8 0), AV.lit (Value.int IntKind.u8 0), AV.lit (Value.int IntKind.u8 0), AV.lit (Value.int IntKind.u8 0), AV.lit (Value.int IntKind.u8 0), AV.lit (Value.int IntKind.u8 0)] 46 = .cells (u8L (List.replicate 32 0)) 46 := rfl
  obtain ⟨hB, hhB⟩ : ∃ hB, hB = hA.push (.cells [AV.lit (Value.int IntKind.u32 1779033703), AV.lit (Value.int IntKind.u32 3144134277), AV.lit (Value.int IntKind.u32 1013904242), AV.lit (Value.int IntKind.u32 2773480762), AV.lit (Value.int IntKind.u32 1359893119), AV.lit (Value.int IntKind.u32 2600822924), AV.lit (Value.int IntKind.u32 528734635), AV.lit (Value.int IntKind.u32 1541459225)] 100) := ⟨_, rfl⟩
  have eB : Ext hA.n hA hB := hhB ▸ (Ext.refl _ _).push _ (Nat.le_refl _)
  have nB : hB.n = hA.n + 1 := hhB ▸ n_push _ _
  have XB : hB.at hA.n = some (.cells (uL h0S.list) 100) := hhB ▸ at_push_n _ _
  have XBA := (eB.2 _ (at_lt XA)).trans XA
  simp only [core, zrA, zrS, zrM, zrL, zrE, reduceCtorEq, zrD, ziE, ziL, ziN, Tryz.ntmps37, hz32, ← hhA, ← hhB]
  refine rounds_x.mono ?_
  rintro _ h1 ⟨e1, rfl⟩
  obtain ⟨hC, hhC⟩ : ∃ hC, hC = h1.push (.cells (uL keyT) 103) := ⟨_, rfl⟩
  have eC : Ext h1.n h1 hC := hhC ▸ (Ext.refl _ _).push _ (Nat.le_refl _)
  have nC : hC.n = h1.n + 1 := hhC ▸ n_push _ _
  have XC : hC.at h1.n = some (.cells (uL keyT) 103) := hhC ▸ at_push_n _ _
  have n1 := e1.1
  have XCB : hC.at hA.n = some (.cells (uL h0S.list) 100) := ((e1.trans (eC.mono n1)).2 _ (at_lt XB)).trans XB
  have XCA : hC.at H.n = some (.cells (u8L (List.replicate 32 0)) 46) := ((e1.trans (eC.mono n1)).2 _ (at_lt XBA)).trans XBA
  have eHC : Ext H.n H hC := ((eA.trans (eB.mono (by omega))).trans (e1.mono (by omega))).trans (eC.mono (by omega))
  have a4 : (uL keyT).length = 64 := rfl
  have a5 : (uL keyT).take 64 = uL keyT := rfl
  have a6 := uL_ones keyT
  simp only [core, zrA, zrS, zrM, zrL, zrE, reduceCtorEq, zrD, ziE, ziL, ziN, a4, a5, a6, ← hhC]
  have hvC : IsSl RByte F hC v b := hv.ext eHC (Nat.le_refl _)
  refine WOp_app (cat_y (n0 := hC.n) OwnL.nil hvC (by simp; omega) (Nat.le_refl _)) ?_
  rintro s2 h2 ⟨o2, e2⟩
  have u2 := o2.one
  rw [List.nil_append] at o2
  have e5 : Ext h2.n h2 (h2.push (.cells [.lit (.int .u8 128)] 5)) := (Ext.refl _ _).push _ (Nat.le_refl _)
  simp only [core, zrA, zrS, zrM, zrL, zrE, reduceCtorEq, zrD, ziE, ziL, ziN, u2]
  refine WOp_app (push_y (y := 128) (o2.ext e5 (Nat.le_refl _)) (by rw [n_push]; have := e2.1; omega) (at_push_n h2 _) rfl (by omega)) ?_
  rintro s3 h3 ⟨o3, e3⟩
  have u3 := o3.one
  have E3 : Ext hC.n hC h3 := (e2.trans (e5.mono e2.1)).trans e3
  simp only [core, zrA, zrS, zrM, zrL, zrE, reduceCtorEq, zrD, ziE, ziL, ziN, u3]
  have hvI : Ex.isSl v = true := hv.isSl
  have hvL : lenD v = b.length := hv.lenD
  refine WB_for (padN b.length) (fun i t h => Ext hC.n hC h ∧ (∃ m, OwnY hC.n h m (b ++ [128] ++ List.replicate i 0) ∧ t.get 5 = m) ∧ t.n = 64 ∧ t.get 0 = v ∧ t.get 2 = .ptr H.n 0 ∧ t.get 3 = .ptr hA.n 0 ∧ t.get 4 = .ptr h1.n 0) ?_ ?_ _ _ ?_
  · rintro i t h hlt hc ⟨E, ⟨m, o, g5⟩, hn, g0, g2, g3, g4⟩ ih
    have m1 := o.isSl
    have m2 := o.lenD
    have m3 := o.one
    have hl : (b ++ [128] ++ List.replicate i (0 : UInt8)).length = b.length + 1 + i := by simp; omega
    rw [hl] at m2
    unfold padN at hlt
    have hq : ((((b.length + 1 + i : Nat) : Int).tmod 64) != 56) = true := by
      have : (((b.length + 1 + i : Nat) : Int).tmod 64) = (((b.length + 1 + i) % 64 : Nat) : Int) := rfl
      rw [this]
      simp only [bne_iff_ne, ne_eq]
      omega
    have z1 : ((64 : Int) = 0) = False := by simp
    have e6 : Ext h.n h (h.push (.cells [.lit (.int .u8 0)] 5)) := (Ext.refl _ _).push _ (Nat.le_refl _)
    simp only [core, zrA, zrS, zrM, zrL, zrE, reduceCtorEq, zrD, ziE, ziL, ziN, hn, g0, g2, g3, g4, g5, m1, m2, m3, hq, z1]
    refine WOp_app (push_y (y := 0) (o.ext e6 (Nat.le_refl _)) (by rw [n_push]; have := E.1; omega) (at_push_n h _) rfl (by rw [hl]; omega)) ?_
    rintro s6 h6 ⟨o6, e7⟩
    have u6 := o6.one
    simp only [core, zrA, zrS, zrM, zrL, zrE, reduceCtorEq, zrD, ziE, ziL, ziN, hn, g0, g2, g3, g4, u6]
    refine ih _ _ ⟨(E.trans (e6.mono E.1)).trans e7, ⟨s6, ?_, ?_⟩, ?_⟩
    · rw [List.replicate_succ', ← List.append_assoc]
      exact o6
    · simp only [core, zrA, zrS, zrM, zrL, zrE, reduceCtorEq, zrD, ziE, ziL, ziN, hn, g0, g2, g3, g4]
    · simp only [core, zrA, zrS, zrM, zrL, zrE, reduceCtorEq, zrD, ziE, ziL, ziN, hn, g0, g2, g3, g4]
  · rintro t h hc ⟨E, ⟨m, o, g5⟩, hn, g0, g2, g3, g4⟩
    have m1 := o.isSl
    have m2 := o.lenD
    have m3 := o.one
    have hl : (b ++ [128] ++ List.replicate (padN b.length) (0 : UInt8)).length = b.length + 1 + padN b.length := by simp; omega
    rw [hl] at m2
    have hpad : padN b.length < 64 := by unfold padN; omega
    have hq : ((((b.length + 1 + padN b.length : Nat) : Int).tmod 64) != 56) = false := by
      have : (((b.length + 1 + padN b.length : Nat) : Int).tmod 64) = (((b.length + 1 + padN b.length) % 64 : Nat) : Int) := rfl
      rw [this]
      simp only [bne_eq_false_iff_eq]
      unfold padN
      omega
    have z1 : ((64 : Int) = 0) = False := by simp
    simp only [core, zrA, zrS, zrM, zrL, zrE, reduceCtorEq, zrD, ziE, ziL, ziN, hn, g0, g2, g3, g4, g5, m1, m2, m3, hq, z1]
    refine WB_for 8 (fun i t h => Ext hC.n hC h ∧ (∃ m, OwnY hC.n h m (b ++ [128] ++ List.replicate (padN b.length) 0 ++ (List.range i).map (lenB b.length)) ∧ t.get 5 = m) ∧ t.n = 64 ∧ t.get 0 = v ∧ t.get 2 = .ptr H.n 0 ∧ t.get 3 = .ptr hA.n 0 ∧ t.get 4 = .ptr h1.n 0 ∧ t.get 23 = .lit (.int .i64 i)) ?_ ?_ _ _ ?_
    · rintro i t h hlt hc ⟨E, ⟨m, o, g5⟩, hn, g0, g2, g3, g4, g23⟩ ih
      have m1 := o.isSl
      have m3 := o.one
      have hc3 : ((i : Int) < 8) = True := by simp only [eq_iff_iff, iff_true]; omega
      have hw := wrap_succ hlt (by omega)
      have w1 : IntKind.u64.wrap (b.length : Int) = (b.length : Int) := wrap_u64 (by omega) (by omega)
      have w2 : shlI .u64 (b.length : Int) 3 = ((b.length * 8 : Nat) : Int) := by
        have : shlI .u64 (b.length : Int) 3 = IntKind.u64.wrap ((b.length : Int) * 8) := rfl
        rw [this]
        exact (wrap_u64 (by omega) (by omega)).trans (by omega)
      have w3 : IntKind.i64.wrap (8 * (i : Int)) = ((8 * i : Nat) : Int) := (wrap_in (by omega) (by omega)).trans (by omega)
      have w4 : IntKind.i64.wrap (56 - ((8 * i : Nat) : Int)) = ((56 - 8 * i : Nat) : Int) := (wrap_in (by omega) (by omega)).trans (by omega)
      have s2 : ∀ {P : Program} {e : TypeId} {x : Int}, pur P (binOp .shr e (.int .u64 x) (.int .i64 ((56 - 8 * i : Nat) : Int))) = some (.ok (.int .u64 (shrI .u64 x ((56 - 8 * i : Nat) : Int)))) := pb_shr (Int.natCast_nonneg _)
      have hby := len_byte (n := b.length) (i := i) (by omega) hlt
      have e6 : Ext h.n h (h.push (.cells [.lit (.int .u8 ((lenB b.length i).toNat : Int))] 5)) := (Ext.refl _ _).push _ (Nat.le_refl _)
      simp only [core, zrA, zrS, zrM, zrL, zrE, reduceCtorEq, zrD, ziE, ziL, ziN, hn, g0, g2, g3, g4, g23, g5, m1, m3, hc3, hvI, hvL, w1, w2, w3, w4, s2, hby]
      refine WOp_app (push_y (y := lenB b.length i) (o.ext e6 (Nat.le_refl _)) (by rw [n_push]; have := E.1; omega) (at_push_n h _) rfl (by simp; omega)) ?_
      rintro s6 h6 ⟨o6, e7⟩
      have u6 := o6.one
      simp only [core, zrA, zrS, zrM, zrL, zrE, reduceCtorEq, zrD, ziE, ziL, ziN, hn, g0, g2, g3, g4, g23, u6, hw]
      refine ih _ _ ⟨(E.trans (e6.mono E.1)).trans e7, ⟨s6, ?_, ?_⟩, ?_⟩
      · rw [List.range_succ, List.map_append, ← List.append_assoc]
        exact o6
      · simp only [core, zrA, zrS, zrM, zrL, zrE, reduceCtorEq, zrD, ziE, ziL, ziN, hn, g0, g2, g3, g4, g23]
      · simp only [core, zrA, zrS, zrM, zrL, zrE, reduceCtorEq, zrD, ziE, ziL, ziN, hn, g0, g2, g3, g4, g23]
    · rintro t h hc ⟨E, ⟨m, o, g5⟩, hn, g0, g2, g3, g4, g23⟩
      have hc3 : (((8 : Nat) : Int) < 8) = False := by simp
      rw [← padF_eq] at o
      simp only [core, zrA, zrS, zrM, zrL, zrE, reduceCtorEq, zrD, ziE, ziL, ziN, hn, g0, g2, g3, g4, g23, hc3]
      have hmod := pad_mod b
      obtain ⟨N, hN⟩ : ∃ N, N = (padF b).length / 64 := ⟨_, rfl⟩
      have hNl : (padF b).length = 64 * N := by omega
      have hNs : N ≤ 100000000 := by
        have := padF_len b
        omega
      rw [shaF_eq b hN.symm]
      clear hN hmod
      have hn1 : hC.n ≤ h.n := E.1
      refine WB_for N (fun i t h => hC.n ≤ h.n ∧ Ext H.n H h ∧ h.at H.n = some (.cells (u8L (List.replicate 32 0)) 46) ∧ h.at hA.n = some (.cells (uL (blksF keyT (padF b) h0S i).list) 100) ∧ h.at h1.n = some (.cells (uL keyT) 103) ∧ (∃ m, IsSl RByte (fun k => hC.n ≤ k) h m ((padF b).drop (64 * i)) ∧ t.get 5 = m) ∧ t.n = 64 ∧ t.get 2 = .ptr H.n 0 ∧ t.get 3 = .ptr hA.n 0 ∧ t.get 4 = .ptr h1.n 0) ?_ ?_ _ _ ?_
      · rintro i t h hlt hc ⟨y1, y2, y3, y4, y5, ⟨m, y6, g5⟩, hn, g2, g3, g4⟩ ih
        have m1 := y6.isSl
        have m2 := y6.lenD
        have m3 := y6.one
        have hcap : CapOk 1 m := by obtain ⟨L, -, -, hc, -⟩ := y6.out; exact hc
        have hdl : ((padF b).drop (64 * i)).length = 64 * (N - i) := by rw [List.length_drop, hNl]; omega
        rw [hdl] at m2
        have hc3 : ((0 : Int) < ((64 * (N - i) : Nat) : Int)) = True := by simp only [eq_iff_iff, iff_true]; omega
        have hs1 : ((64 : Int) ≤ ((64 * (N - i) : Nat) : Int)) = True := by simp only [eq_iff_iff, iff_true]; omega
        have hs2 : (((64 * (N - i) : Nat) : Int) ≤ ((64 * (N - i) : Nat) : Int)) = True := by simp
        have q1 := y6.sub (l := 0) (r := 64) (by omega) (by rw [hdl]; omega)
        have q2 := y6.sub (l := 64) (r := 64 * (N - i)) (by omega) (by rw [hdl]; omega)
        rw [List.drop_zero] at q1
        rw [List.take_of_length_le (by rw [hdl]; omega), List.drop_drop] at q2
        have hq1 : Ex.isSl (subSl 1 0 64 m) = true := q1.isSl
        simp only [core, zrA, zrS, zrM, zrL, zrE, reduceCtorEq, zrD, ziE, ziL, ziN, hn, g2, g3, g4, g5, m1, m2, m3, hc3, hcap, hs1, hs2]
        refine (block_x y4 y5 (by omega) rfl q1 (by rw [List.length_take, hdl]; omega)).mono ?_
        rintro _ h' z
        have f1 := at_lt y4
        rw [blks_succ] at ih
        generalize blkF keyT (blksF keyT (padF b) h0S i) (((padF b).drop (64 * i)).take 64) = S at *
        have k : ∀ b, b < h.n → b ≠ hA.n → h'.at b = h.at b := fun b hb hne => (z.2 b hb).trans (at_put_ne _ (Ne.symm hne))
        have hn' : h.n ≤ h'.n := by have := z.1; rw [n_put] at this; exact this
        simp only [core, zrA, zrS, zrM, zrL, zrE, reduceCtorEq, zrD, ziE, ziL, ziN, hn, g2, g3, g4, g5, m1, m2, m3, hcap, hs1, hs2]
        refine ih _ _ ⟨by omega, ⟨by have := y2.1; omega, fun b hb => (k b (by have := y2.1; omega) (by omega)).trans (y2.2 b hb)⟩, (k _ (at_lt y3) (by omega)).trans y3, (z.2 _ f1).trans (at_put_same _ f1), (k _ (at_lt y5) (by omega)).trans y5, ⟨subSl 1 64 (64 * (N - i)) m, ?_, ?_⟩, ?_⟩
        · rw [show 64 * (i + 1) = 64 * i + 64 by omega]
          exact q2.lift fun b hb hlt => ⟨k b hlt (by omega), hb⟩
        · simp only [core, zrA, zrS, zrM, zrL, zrE, reduceCtorEq, zrD, ziE, ziL, ziN, hn, g2, g3, g4]
        · simp only [core, zrA, zrS, zrM, zrL, zrE, reduceCtorEq, zrD, ziE, ziL, ziN, hn, g2, g3, g4]
      · rintro t h hc ⟨y1, y2, y3, y4, y5, ⟨m, y6, g5⟩, hn, g2, g3, g4⟩
        have m1 := y6.isSl
        have m2 := y6.lenD
        have hdl : ((padF b).drop (64 * N)).length = 0 := by rw [List.length_drop, hNl]; omega
        rw [hdl] at m2
        have hc3 : ((0 : Int) < ((0 : Nat) : Int)) = False := by simp
        have hSl : (blksF keyT (padF b) h0S N).list.length = 8 := rfl
        generalize (blksF keyT (padF b) h0S N).list = S at *
        simp only [core, zrA, zrS, zrM, zrL, zrE, reduceCtorEq, zrD, ziE, ziL, ziN, hn, g2, g3, g4, g5, m1, m2, hc3, hz32]
        refine WB_for 32 (fun i t h' => (∃ W, W.length = 32 ∧ W.take i = (outW S).take i ∧ h' = h.push (.cells (u8L W) 46)) ∧ t.n = 64 ∧ t.get 2 = .ptr H.n 0 ∧ t.get 3 = .ptr hA.n 0 ∧ t.get 7 = .ptr h.n 0 ∧ t.get 47 = .lit (.int .i64 i)) ?_ ?_ _ _ ?_
        · rintro i t h' hlt hc ⟨⟨W, hW, hT, rfl⟩, hn, g2, g3, g7, g47⟩ ih
          have hc3 : ((i : Int) < 32) = True := by simp only [eq_iff_iff, iff_true]; omega
          have hw := wrap_succ hlt (by omega)
          obtain ⟨hG, hhG⟩ : ∃ hG, hG = h.push (.cells (u8L W) 46) := ⟨_, rfl⟩
          have eG : Ext h.n h hG := hhG ▸ (Ext.refl _ _).push _ (Nat.le_refl _)
          have X : hG.at h.n = some (.cells (u8L W) 46) := hhG ▸ at_push_n _ _
          have Y : hG.at hA.n = some (.cells (uL S) 100) := (eG.2 _ (at_lt y4)).trans y4
          have l := at_lt X
          have LY := ld_at (T := tabOf Tryz.prog NT0) Y
          have lY := at_lt Y
          have t1 : Int.tdiv (i : Int) 4 = ((i / 4 : Nat) : Int) := rfl
          have t2 : Int.tmod (i : Int) 4 = ((i % 4 : Nat) : Int) := rfl
          have z1 : ((4 : Int) = 0) = False := by simp
          have w1 : IntKind.i64.wrap ((i / 4 : Nat) : Int) = ((i / 4 : Nat) : Int) := wrap_in (by omega) (by omega)
          have w3 : IntKind.i64.wrap (8 * ((i % 4 : Nat) : Int)) = ((8 * (i % 4) : Nat) : Int) := (wrap_in (by omega) (by omega)).trans (by omega)
          have w4 : IntKind.i64.wrap (24 - ((8 * (i % 4) : Nat) : Int)) = ((24 - 8 * (i % 4) : Nat) : Int) := (wrap_in (by omega) (by omega)).trans (by omega)
          have s2 : ∀ {P : Program} {e : TypeId} {x : Int}, pur P (binOp .shr e (.int .u32 x) (.int .i64 ((24 - 8 * (i % 4) : Nat) : Int))) = some (.ok (.int .u32 (shrI .u32 x ((24 - 8 * (i % 4) : Nat) : Int)))) := pb_shr (Int.natCast_nonneg _)
          have hS : (uL S)[i / 4]? = some (.lit (.int .u32 (S.getD (i / 4) 0))) := uL_get (by omega)
          have hob : IntKind.u8.wrap (shrI .u32 (S.getD (i / 4) 0) ((24 - 8 * (i % 4) : Nat) : Int)) = outB S i := rfl
          have l4 : i / 4 < 8 := by omega
          have hp := u8L_put (l := W) (i := i) (x := outB S i) (by omega)
          simp only [corem, WB_cond_s, put, ldL, WB_label, List.nil_append, List.drop_zero, List.take_zero, zrA, zrS, zrM, zrL, zrE, reduceCtorEq, zrD, ziE, ziL, ziN, -put, hn, g2, g3, g7, g47, hc3, hw, ← hhG, X, Y, l, LY, lY, t1, t2, z1, w1, w3, w4, s2, hS, hob, l4, hlt, hp]
          subst hhG
          refine ih _ _ ⟨⟨W.set i (outB S i), by rw [List.length_set]; exact hW, outW_take hT (by omega) hlt, by rw [put_push]⟩, ?_⟩
          simp only [core, zrA, zrS, zrM, zrL, zrE, reduceCtorEq, zrD, ziE, ziL, ziN, hn, g2, g3, g7, g47]
        · rintro t h' hc ⟨⟨W, hW, hT, rfl⟩, hn, g2, g3, g7, g47⟩
          have hc3 : (((32 : Nat) : Int) < 32) = False := by simp
          obtain rfl : W = outW S := by
            rw [List.take_of_length_le (by omega), List.take_of_length_le (by rw [outW_len]; omega)] at hT
            exact hT
          obtain ⟨hG, hhG⟩ : ∃ hG, hG = h.push (.cells (u8L (outW S)) 46) := ⟨_, rfl⟩
          have eG : Ext h.n h hG := hhG ▸ (Ext.refl _ _).push _ (Nat.le_refl _)
          have X : hG.at h.n = some (.cells (u8L (outW S)) 46) := hhG ▸ at_push_n _ _
          have Z : hG.at H.n = some (.cells (u8L (List.replicate 32 0)) 46) := (eG.2 _ (at_lt y3)).trans y3
          have LX := ld_at (T := tabOf Tryz.prog NT0) X
          have lX := at_lt X
          have lZ := at_lt Z
          have b1 : (u8L (outW S)).length = 32 := by rw [u8L_len, outW_len]
          have b2 : (u8L (outW S)).take 32 = u8L (outW S) := List.take_of_length_le (by omega)
          have b3 := u8L_ones (outW S)
          have b4 : (u8L (List.replicate 32 0)).length = 32 := rfl
          have b5 : (u8L (List.replicate 32 0)).drop 32 = [] := rfl
          simp only [core, zrA, zrS, zrM, zrL, zrE, reduceCtorEq, zrD, ziE, ziL, ziN, hn, g2, g3, g7, g47, hc3, ← hhG, X, Z, LX, lX, lZ, b1, b2, b3, b4, b5]
          exact (y2.trans (eG.mono y2.1)).put (p := H.n) _ (Nat.le_refl _)
        · refine ⟨⟨List.replicate 32 0, rfl, rfl, rfl⟩, ?_⟩
          simp only [core, zrA, zrS, zrM, zrL, zrE, reduceCtorEq, zrD, ziE, ziL, ziN, hn, g2, g3, g4]
          rfl
      · refine ⟨hn1, eHC.trans (E.mono (by omega)), (E.2 _ (at_lt XCA)).trans XCA, ?_, (E.2 _ (at_lt XC)).trans XC, ⟨m, ?_, ?_⟩, ?_⟩
        · rw [blks_zero]
          exact (E.2 _ (at_lt XCB)).trans XCB
        · rw [Nat.mul_zero, List.drop_zero]
          exact o.toSl (fun _ hf => hf.elim) fun _ hb => hb
        · simp only [core, zrA, zrS, zrM, zrL, zrE, reduceCtorEq, zrD, ziE, ziL, ziN, hn, g0, g2, g3, g4, g23, g5]
        · simp only [core, zrA, zrS, zrM, zrL, zrE, reduceCtorEq, zrD, ziE, ziL, ziN, hn, g0, g2, g3, g4, g23]
    · refine ⟨E, ⟨m, by simpa using o, ?_⟩, ?_⟩
      · simp only [core, zrA, zrS, zrM, zrL, zrE, reduceCtorEq, zrD, ziE, ziL, ziN, hn, g0, g2, g3, g4, g5]
      · simp only [core, zrA, zrS, zrM, zrL, zrE, reduceCtorEq, zrD, ziE, ziL, ziN, hn, g0, g2, g3, g4]
        rfl
  · refine ⟨E3, ⟨s3, by simpa using o3, ?_⟩, ?_⟩
    · simp only [core, zrA, zrS, zrM, zrL, zrE, reduceCtorEq, zrD, ziE, ziL, ziN]
    · simp only [core, zrA, zrS, zrM, zrL, zrE, reduceCtorEq, zrD, ziE, ziL, ziN]
end Go.Proofs.YtpfibijbieblnaaGreatDoor.Ex
end

section

set_option linter.unusedSimpArgs false
set_option linter.unusedVariables false
set_option maxRecDepth 10000
set_option maxHeartbeats 8000000
namespace Go.Proofs.YtpfibijbieblnaaGreatDoor.Ex
open Go
/-- Where an engine counts its calls. -/
def callsOff : Nat := 259
def aggOk2 : Option AV → Bool
  | some (.agg cs) => cs.all AV.one && (match cs[callsOff]? with | some (.lit (.int .i64 0)) => true | _ => false)
  | _ => false
theorem eng_zero2 : ∃ cs, zeroT (tabOf Tryz.prog NT0) 96 = some (.agg cs) ∧ cs.all AV.one = true ∧ cs[callsOff]? = some (.lit (.int .i64 0)) := by
  have h : aggOk2 (zeroT (tabOf Tryz.prog NT0) 96) = true := by kernel_rfl
  revert h
  generalize zeroT (tabOf Tryz.prog NT0) 96 = o
  intro h
  unfold aggOk2 at h
  split at h
  · rename_i cs
    simp only [Bool.and_eq_true] at h
    refine ⟨cs, rfl, h.1, ?_⟩
    have h2 := h.2
    split at h2
    · rename_i e; exact e
    · cases h2
  · cases h
/-- An engine in its block. -/
def Eng (h : AH) (p : Nat) : Prop := ∃ cs e n, h.at p = some (.cells cs e) ∧ cs[callsOff]? = some (.lit (.int .i64 n))
theorem Eng.ext {h h' : AH} {p : Nat} (hp : Eng h p) (e : Ext h.n h h') : Eng h' p := by
  obtain ⟨cs, e', n, h1, h2⟩ := hp
  exact ⟨cs, e', n, (e.2 _ (at_lt h1)).trans h1, h2⟩
theorem Eng.lt {h : AH} {p : Nat} (hp : Eng h p) : p < h.n := by
  obtain ⟨cs, e', n, h1, h2⟩ := hp
  exact at_lt h1
theorem newE_x {H : AH} : WC Tryz.prog (tabOf Tryz.prog NT0) S0 17 [] H fun r h' => ∃ p, r = .ptr p 0 ∧ Ext H.n H h' ∧ H.n ≤ p ∧ Eng h' p := by
  refine WC_fn Tryz.func17 rfl rfl ?_
  obtain ⟨cs, hz, h1, h2⟩ := eng_zero2
  simp only [core, zrA, zrS, zrM, zrL, zrE, reduceCtorEq, zrD, ziE, ziL, ziN, Tryz.ntmps17, hz, h1, bdM, fillA, evalParts]
  exact ⟨_, rfl, (Ext.refl _ _).push _ (Nat.le_refl _), Nat.le_refl _, cs, _, 0, at_push_n _ _, h2⟩
theorem add_c {H : AH} {p off : Nat} {n : Int} {cs : List AV} {e : TypeId} {Q : AV → AH → Prop} (hp : H.at p = some (.cells cs e)) (hn : cs[off]? = some (.lit (.int .i64 n)))
    (hq : ∀ cs', cs'[off]? = some (.lit (.int .i64 (IntKind.i64.wrap (n + 1)))) → Q (.lit (.int .i64 (IntKind.i64.wrap (n + 1)))) (H.put p (.cells cs' e))) : WC Tryz.prog (tabOf Tryz.prog NT0) S0 36 [.ptr p off, .lit (.int .i64 1)] H Q := by
  have hlt : off < cs.length := (List.getElem?_eq_some_iff.1 hn).1
  have hput : put cs off [.lit (.int .i64 (IntKind.i64.wrap (n + 1)))] = some (cs.set off (.lit (.int .i64 (IntKind.i64.wrap (n + 1))))) := by
    unfold put
    rw [if_pos (by show off + 1 ≤ _; omega), List.set_eq_take_append_cons_drop, if_pos hlt]
    simp
  refine WC_sum Tryz.func36 rfl (g := sAdd) rfl ?_ (hq (cs.set off (.lit (.int .i64 (IntKind.i64.wrap (n + 1))))) (by rw [List.getElem?_set_self hlt]))
  show (match getB H p with | some (l, e) => _ | none => none) = _
  have hg : getB H p = some (cs, e) := by unfold getB; rw [hp]
  rw [hg]
  show (match cs[off]? with | some (.lit (.int .i64 x)) => _ | _ => none) = _
  rw [hn]
  show (put cs off [.lit (.int .i64 (IntKind.i64.wrap (n + 1)))]).map _ = _
  rw [hput]
  rfl
theorem sha_x {H : AH} {p : Nat} {v : AV} {b : List UInt8} {F : Nat → Prop} (hE : Eng H p) (hv : IsSl RByte F H v b) (hF : ∀ k, F k → k ≠ p) (hb : b.length ≤ 1000000000) :
    WC Tryz.prog (tabOf Tryz.prog NT0) S0 18 [.ptr p 0, v] H fun r h' => r = .agg (u8L (shaF b)) ∧ H.n ≤ h'.n ∧ (∀ k, k < H.n → k ≠ p → h'.at k = H.at k) ∧ Eng h' p := by
  refine WC_fn Tryz.func18 rfl rfl ?_
  obtain ⟨cs, e, n, h1, h2⟩ := hE
  have hlp := at_lt h1
  have hz32 : AB.cells [AV.lit (Value.int IntKind.u8 0), AV.lit (Value.int IntKind.u8 0), AV.lit (Value.int IntKind.u8 0), AV.lit (Value.int IntKind.u8 0), AV.lit (Value.int IntKind.u8 0), AV.lit (Value.int IntKind.u8 0), AV.lit (Value.int IntKind.u8 0), AV.lit (Value.int IntKind.u8 0), AV.lit (Value.int IntKind.u8 0), AV.lit (Value.int IntKind.u8 0), AV.lit (Value.int IntKind.u8 0), AV.lit (Value.int IntKind.u8 0), AV.lit (Value.int IntKind.u8 0), AV.lit (Value.int IntKind.u8 0), AV.lit (Value.int IntKind.u8 0), AV.lit (Value.int IntKind.u8 0), AV.lit (Value.int IntKind.u8 0), AV.lit (Value.int IntKind.u8 0), AV.lit (Value.int IntKind.u8 0), AV.lit (Value.int IntKind.u8 0), AV.lit (Value.int IntKind.u8 0), AV.lit (Value.int IntKind.u8 0), AV.lit (Value.int IntKind.u8 0), AV.lit (Value.int IntKind.u8 0), AV.lit (Value.int IntKind.u8 0), AV.lit (Value.int IntKind.u8 0), AV.lit (Value.int IntKind.u8 0), AV.lit (Value.int IntKind.u8 0), AV.lit (Value.int IntKind.u8 0), AV.lit (Value.int IntKind.u8 0), AV.lit (Value.int IntKind.u8 0), AV.lit (Value.int IntKind.u8 0)] 46 = .cells (u8L (List.replicate 32 0)) 46 := rfl
  obtain ⟨hA, hhA⟩ : ∃ hA, hA = H.push (.cells (u8L (List.replicate 32 0)) 46) := ⟨_, rfl⟩
  have eA : Ext H.n H hA := hhA ▸ (Ext.refl _ _).push _ (Nat.le_refl _)
  have nA : hA.n = H.n + 1 := hhA ▸ n_push _ _
  have XA : hA.at H.n = some (.cells (u8L (List.replicate 32 0)) 46) := hhA ▸ at_push_n _ _
  have P1 := (eA.2 _ hlp).trans h1
  simp only [core, zrA, zrS, zrM, zrL, zrE, reduceCtorEq, zrD, ziE, ziL, ziN, Tryz.ntmps18, hz32, ← hhA]
  refine add_c P1 h2 fun cs' h3 => ?_
  obtain ⟨hB, hhB⟩ : ∃ hB, hB = hA.put p (.cells cs' e) := ⟨_, rfl⟩
  have nB : hB.n = hA.n := hhB ▸ n_put ..
  have P2 : hB.at p = some (.cells cs' e) := hhB ▸ at_put_same _ (by omega)
  have k2 : ∀ k, k ≠ p → hB.at k = hA.at k := fun k hk => hhB ▸ at_put_ne _ (Ne.symm hk)
  have hvB : IsSl RByte F hB v b := hv.lift fun k hk hlt => ⟨(k2 k (hF k hk)).trans (eA.2 k hlt), hk⟩
  rw [← hhB]
  simp only [core, zrA, zrS, zrM, zrL, zrE, reduceCtorEq, zrD, ziE, ziL, ziN]
  refine (sum256_x hvB hb).mono ?_
  rintro _ h4 ⟨e4, rfl⟩
  have X4 : h4.at H.n = _ := (e4.2 _ (by omega)).trans ((k2 _ (by omega)).trans XA)
  have l4 := at_lt X4
  have P4 : h4.at p = _ := (e4.2 _ (by omega)).trans P2
  have b1 : (u8L (shaF b)).length = 32 := by rw [u8L_len, shaF_len]
  have b2 : (u8L (shaF b)).take 32 = u8L (shaF b) := List.take_of_length_le (by omega)
  have b3 := u8L_ones (shaF b)
  have b4 : (u8L (List.replicate 32 0)).length = 32 := rfl
  have b5 : (u8L (List.replicate 32 0)).drop 32 = [] := rfl
  have n4 := e4.1
  simp only [core, zrA, zrS, zrM, zrL, zrE, reduceCtorEq, zrD, ziE, ziL, ziN, X4, l4, b1, b2, b3, b4, b5]
  refine ⟨by omega, fun k hk hkp => ?_, cs', e, _, (at_put_ne _ (by omega)).trans P4, h3⟩
  rw [at_put_ne _ (by omega), e4.2 k (by omega), k2 k hkp, eA.2 k hk]
end Go.Proofs.YtpfibijbieblnaaGreatDoor.Ex
end

section

set_option linter.unusedSimpArgs false
set_option linter.unusedVariables false
set_option maxRecDepth 10000
set_option maxHeartbeats 8000000
namespace Go.Proofs.YtpfibijbieblnaaGreatDoor.Ex
open Go
/-- A row of the run's own, or an empty one without room. -/
def EmY (n0 : Nat) (h : AH) (s : AV) (ys : List UInt8) : Prop := OwnY n0 h s ys ∨ (ys = [] ∧ ∃ p, n0 ≤ p ∧ s = .sl p 0 0 (.kn 0) ∧ h.at p = some (.cells [] 5))
theorem EmY.one {n0 : Nat} {h : AH} {s : AV} {ys : List UInt8} (ho : EmY n0 h s ys) : s.one = true := by
  rcases ho with ho | ⟨_, p, _, rfl, _⟩
  · exact ho.one
  · rfl
theorem EmY.ext {n0 : Nat} {h h' : AH} {s : AV} {ys : List UInt8} (ho : EmY n0 h s ys) (e : Ext h.n h h') : EmY n0 h' s ys := by
  rcases ho with ho | ⟨e1, p, e2, e3, e4⟩
  · exact .inl (ho.ext e (Nat.le_refl _))
  · exact .inr ⟨e1, p, e2, e3, (e.2 _ (at_lt e4)).trans e4⟩
theorem fresh_y {n0 p : Nat} {h : AH} {x : AV} {ys : List UInt8} {F : Nat → Prop} (hp : h.at p = some (.cells [] 5)) (hp0 : n0 ≤ p) (hx : IsSl RByte F h x ys) (hl : ys.length ≤ 1000000000000) (hn0 : n0 ≤ h.n) :
    ∃ s' h', appendA (tabOf Tryz.prog NT0) h 23 23 (.sl p 0 0 (.kn 0)) x = some (s', h') ∧ EmY n0 h' s' ys ∧ Ext h.n h h' := by
  obtain ⟨M, h1, h2, h3, h4⟩ := hx.out
  have hM := h4.1
  rcases append_fresh (T := tabOf Tryz.prog NT0) (h := h) (t := 23) (tx := 23) (e := 5) (z := 1) (by' := 1) (zv := .lit (.int .u8 0)) (M := M) (p := p) (x := x) (by kernel_rfl) (by kernel_rfl) (by kernel_rfl) (by kernel_rfl) (by kernel_rfl) rfl (by decide) (by decide) hp h1.src h1.len h4.lens h4.ones (by omega) (by omega) with ⟨hm, ha⟩ | ⟨hm, ha⟩
  · refine ⟨_, _, ha, .inr ⟨List.eq_nil_of_length_eq_zero (by rw [← hM, hm]; rfl), p, hp0, rfl, hp⟩, Ext.refl _ _⟩
  · exact ⟨_, _, ha, .inl ⟨M, ⟨h4.lens, .inr ⟨h.n, rfl, hn0, at_push_n _ _⟩⟩, ⟨h4.1, fun i c x e1 e2 => h4.2 i c x e1 e2⟩⟩, (Ext.refl _ _).push _ (Nat.le_refl _)⟩
theorem empush_y {n0 q : Nat} {h : AH} {v : AV} {xs : List UInt8} {x : Int} {y : UInt8} {e' : TypeId} (ho : EmY n0 h v xs) (hn0 : n0 ≤ h.n) (A : h.at q = some (.cells [.lit (.int .u8 x)] e')) (hx : (y.toNat : Int) = x) (hl : xs.length ≤ 1000000000000) :
    ∃ s' h', appendA (tabOf Tryz.prog NT0) h 23 23 v (.sl q 0 1 (.kn 1)) = some (s', h') ∧ OwnY n0 h' s' (xs ++ [y]) ∧ Ext n0 h h' := by
  rcases ho with ho | ⟨rfl, p, hp0, rfl, hp⟩
  · exact push_y ho hn0 A hx hl
  · have hs : IsSl RByte (fun _ => True) h (.sl q 0 1 (.kn 1)) [y] := by
      refine .mk (L := [[.lit (.int .u8 (y.toNat : Int))]]) ⟨by intro c hc; rw [List.mem_singleton] at hc; subst hc; rfl, .inr ⟨q, 0, _, [.lit (.int .u8 x)], rfl, by unfold getR; rw [A], ?_⟩⟩ (fun b off n cap e => trivial) (fun b off n cap e => by cases e; exact Nat.le_refl _) ⟨rfl, fun i c z e1 e2 => ?_⟩
      · rw [hx]; rfl
      · cases i with
        | zero =>
          cases e1; cases e2; rfl
        | succ i => cases e1
    obtain ⟨s', h', a, b, c⟩ := fresh_y (n0 := n0) hp hp0 hs (by simp) hn0
    rcases b with b | ⟨b, _⟩
    · exact ⟨s', h', a, b, c.mono hn0⟩
    · cases b
theorem uL_same : ∀ l : List Int, ((uL l).zip (uL l)).all (fun x => AV.same 7 x.fst x.snd) = true
  | [] => rfl
  | x :: r => by
    show (AV.same 7 (.lit (.int .u32 x)) (.lit (.int .u32 x)) && ((uL r).zip (uL r)).all (fun x => AV.same 7 x.fst x.snd)) = true
    rw [uL_same r]
    simp [AV.same, scalEq]
theorem outW_get {S : List Int} {j k : Nat} (hj : j < 8) (hk : k < 4) : outB S (4 * j + k) = IntKind.u8.wrap (shrI .u32 (S.getD j 0) ((24 - 8 * k : Nat) : Int)) := by
  unfold outB
  rw [show (4 * j + k) / 4 = j by omega, show (4 * j + k) % 4 = k by omega]
theorem shaR_x {H : AH} {v : AV} {b : List UInt8} {F : Nat → Prop} (hv : IsSl RByte F H v b) (hb : b.length ≤ 1000000000) :
    WC Tryz.prog (tabOf Tryz.prog NT0) S0 19 [v] H fun r h' => Ext H.n H h' ∧ r = .agg (u8L (shaF b)) := by
  refine WC_fn Tryz.func19 rfl rfl ?_
  have hz8 : AB.cells [AV.lit (Value.int IntKind.u32 0), AV.lit (Value.int IntKind.u32 0), AV.lit (Value.int IntKind.u32 0), AV.lit (Value.int IntKind.u32 0), AV.lit (Value.int IntKind.u32 0), AV.lit (Value.int IntKind.u32 0), AV.lit (Value.int IntKind.u32 0), AV.lit (Value.int IntKind.u32 0)] 100 = .cells (uL (List.replicate 8 0)) 100 := rfl
  have hz64 : AB.cells [AV.lit (Value.int IntKind.u32 0), AV.lit (Value.int IntKind.u32 0), AV.lit (Value.int IntKind.u32 0), AV.lit (Value.int IntKind.u32 0), AV.lit (Value.int IntKind.u32 0), AV.lit (Value.int IntKind.u32 0), AV.lit (Value.int IntKind.u32 0), AV.lit (Value.int IntKind.u32 0), AV.lit (Value.int IntKind.u32 0), AV.lit (Value.int IntKind.u32 0), AV.lit (Value.int IntKind.u32 0), AV.lit (Value.int IntKind.u32 0), AV.lit (Value.int IntKind.u32 0), AV.lit (Value.int IntKind.u32 0), AV.lit (Value.int IntKind.u32 0), AV.lit (Value.int IntKind.u32 0), AV.lit (Value.int IntKind.u32 0), AV.lit (Value.int IntKind.u32 0), AV.lit (Value.int IntKind.u32 0), AV.lit (Value.int IntKind.u32 0), AV.lit (Value.int IntKind.u32 0), AV.lit (Value.int IntKind.u32 0), AV.lit (Value.int IntKind.u32 0), AV.lit (Value.int IntKind.u32 0), AV.lit (Value.int IntKind.u32 0), AV.lit (Value.int IntKind.u32 0), AV.lit (Value.int IntKind.u32 0), AV.lit (Value.int IntKind.u32 0), AV.lit (Value.int IntKind.u32 0), AV.lit (Value.int IntKind.u32 0), AV.lit (Value.int IntKind.u32 0), AV.lit (Value.int IntKind.u32 0), AV.lit (Value.int IntKind.u32 0), AV.lit (Value.int IntKind.u32 0), AV.lit (Value.int IntKind.u32 0), AV.lit (Value.int IntKind.u32 0), AV.lit (Value.int IntKind.u32 0), AV.lit (Value.int IntKind.u32 0), AV.lit (Value.int IntKind.u32 0), AV.lit (Value.int IntKind.u32 0), AV.lit (Value.int IntKind.u32 0), AV.lit (Value.int IntKind.u32 0), AV.lit (Value.int IntKind.u32 0), AV.lit (Value.int IntKind.u32 0), AV.lit (Value.int IntKind.u32 0), AV.lit (Value.int IntKind.u32 0), AV.lit (Value.int IntKind.u32 0), AV.lit (Value.int IntKind.u32 0), AV.lit (Value.int IntKind.u32 0), AV.lit (Value.int IntKind.u32 0), AV.lit (Value.int IntKind.u32 0), AV.lit (Value.int IntKind.u32 0), AV.lit (Value.int IntKind.u32 0), AV.lit (Value.int IntKind.u32 0), AV.lit (Value.int IntKind.u32 0), AV.lit (Value.int IntKind.u32 0), AV.lit (Value.int IntKind.u32 0), AV.lit (Value.int IntKind.u32 0), AV.lit (Value.int IntKind.u32 0), AV.lit (Value.int IntKind.u32 0), AV.lit (Value.int IntKind.u32 0), AV.lit (Value.int IntKind.u32 0), AV.lit (Value.int IntKind.u32 0), AV.lit (Value.int IntKind.u32 0)] 103 = .cells (uL (List.replicate 64 0)) 103 := rfl
  have hz32 : AB.cells [AV.lit (Value.int IntKind.u8 0), AV.lit (Value.int IntKind.u8 0), AV.lit (Value.int IntKind.u8 0), AV.lit (Value.int IntKind.u8 0), AV.lit (Value.int IntKind.u8 0), AV.lit (Value.int IntKind.u8 0), AV.lit (Value.int IntKind.u8 0), AV.lit (Value.int IntKind.u8 0), AV.lit (Value.int IntKind.u8 0), AV.lit (Value.int IntKind.u8 0), AV.lit (Value.int IntKind.u8 0), AV.lit (Value.int IntKind.u8 0), AV.lit (Value.int IntKind.u8 0), AV.lit (Value.int IntKind.u8 0), AV.lit (Value.int IntKind.u8 0), AV.lit (Value.int IntKind.u8 0), AV.lit (Value.int IntKind.u8 0), AV.lit (Value.int IntKind.u8 0), AV.lit (Value.int IntKind.u8 0), AV.lit (Value.int IntKind.u8 0), AV.lit (Value.int IntKind.u8 0), AV.lit (Value.int IntKind.u8 0), AV.lit (Value.int IntKind.u8 0), AV.lit (Value.int IntKind.u8 0), AV.lit (Value.int IntKind.u8 0), AV.lit (Value.int IntKind.u8 0), AV.lit (Value.int IntKind.u8 0), AV.lit (Value.int IntKind.u8 0), AV.lit (Value.int IntKind.u8 0), AV.lit (Value.int IntKind.u8 0), AV.lit (Value.int IntKind.u8 0), AV.lit (Value.int IntKind.u8 0)] 46 = .cells (u8L (List.replicate 32 0)) 46 := rfl
  obtain ⟨hA, hhA⟩ : ∃ hA, hA = H.push (.cells (u8L (List.replicate 32 0)) 46) := ⟨_, rfl⟩
  have eA : Ext H.n H hA := hhA ▸ (Ext.refl _ _).push _ (Nat.le_refl _)
  have nA : hA.n = H.n + 1 := hhA ▸ n_push _ _
  have XA : hA.at H.n = some (.cells (u8L (List.replicate 32 0)) 46) := hhA ▸ at_push_n _ _
  simp only [core, zrA, zrS, zrM, zrL, zrE, reduceCtorEq, zrD, ziE, ziL, ziN, Tryz.ntmps19, hz32, ← hhA]
  refine primes_x.mono ?_
  rintro v1 h1 ⟨e1, o1⟩
  have n1 := e1.1
  have X1 := (e1.2 _ (at_lt XA)).trans XA
  have p1 : IsSl RU64 (fun k => hA.n ≤ k) h1 v1 prims := o1.toSl (fun _ hf => hf.elim) fun _ hb => hb
  have q1 := p1.isSl
  have q2 := p1.lenD
  have q3 := p1.one
  have hpl : prims.length = 64 := rfl
  have E1 : Ext H.n H h1 := eA.trans (e1.mono (by omega))
  clear hhA
  simp only [core, zrA, zrS, zrM, zrL, zrE, reduceCtorEq, zrD, ziE, ziL, ziN, hz8, q1, q2, q3]
  refine WB_for 8 (fun i t h => Ext h1.n h1 h ∧ (∃ W, W.length = 8 ∧ W.take i = (prims.map sqF).take i ∧ h.at h1.n = some (.cells (uL W) 100)) ∧ t.n = 103 ∧ t.get 0 = v ∧ t.get 2 = .ptr H.n 0 ∧ t.get 3 = v1 ∧ t.get 4 = .ptr h1.n 0 ∧ t.get 16 = .lit (.int .i64 i)) ?_ ?_ _ _ ?_
  · rintro i t h hlt hc ⟨E, ⟨W, hW, hT, X⟩, hn, g0, g2, g3, g4, g16⟩ ih
    have hc3 : ((i : Int) < 8) = True := by simp only [eq_iff_iff, iff_true]; omega
    have hw := wrap_succ hlt (by omega)
    have ph : IsSl RU64 (fun k => hA.n ≤ k) h v1 prims := p1.ext E (Nat.le_refl _)
    have hld := u_at ph (i := i) (by omega)
    have hi64 : i < prims.length := by omega
    simp only [core, zrA, zrS, zrM, zrL, zrE, reduceCtorEq, zrD, ziE, ziL, ziN, hn, g0, g2, g3, g4, g16, hc3, hw, q1, q2, hi64, hld]
    refine square_x.mono ?_
    rintro _ h2 ⟨e2, rfl⟩
    have X2 := (e2.2 _ (at_lt X)).trans X
    have l2 := at_lt X2
    have hp := uL_put (l := W) (i := i) (x := sqF (prims.getD i 0)) (by omega)
    simp only [corem, WB_cond_s, put, ldL, WB_label, List.nil_append, List.drop_zero, List.take_zero, zrA, zrS, zrM, zrL, zrE, reduceCtorEq, zrD, ziE, ziL, ziN, -put, hn, g0, g2, g3, g4, g16, hw, hlt, X2, l2, hp]
    refine ih _ _ ⟨(E.trans (e2.mono E.1)).put _ (Nat.le_refl _), ⟨W.set i _, by rw [List.length_set]; exact hW, ?_, at_put_same _ l2⟩, ?_⟩
    · rw [set_take (by omega), hT, List.take_add_one, List.getElem?_map, List.getElem?_eq_getElem hi64, List.getD_eq_getElem?_getD, List.getElem?_eq_getElem hi64]
      rfl
    · simp only [core, zrA, zrS, zrM, zrL, zrE, reduceCtorEq, zrD, ziE, ziL, ziN, hn, g0, g2, g3, g4, g16]
  · rintro t h hc ⟨E, ⟨W, hW, hT, X⟩, hn, g0, g2, g3, g4, g16⟩
    have hc3 : (((8 : Nat) : Int) < 8) = False := by simp
    obtain rfl : W = h0S.list := by
      rw [List.take_of_length_le (by omega), ← List.map_take] at hT
      rw [hT]
      exact sq_all
    have X2 : h.at H.n = _ := (E.2 _ (at_lt X1)).trans X1
    have E2 : Ext H.n H h := E1.trans (E.mono E1.1)
    have p2 : IsSl RU64 (fun k => hA.n ≤ k) h v1 prims := p1.ext E (Nat.le_refl _)
    simp only [core, zrA, zrS, zrM, zrL, zrE, reduceCtorEq, zrD, ziE, ziL, ziN, hn, g0, g2, g3, g4, g16, hc3, hz64]
    have n2 := E.1
    have n2b : h1.n < h.n := at_lt X
    clear E X1 p1
    refine WB_for 64 (fun i t h' => Ext h.n h h' ∧ (∃ W, W.length = 64 ∧ W.take i = (prims.map cbF).take i ∧ h'.at h.n = some (.cells (uL W) 103)) ∧ t.n = 103 ∧ t.get 0 = v ∧ t.get 2 = .ptr H.n 0 ∧ t.get 3 = v1 ∧ t.get 4 = .ptr h1.n 0 ∧ t.get 6 = .ptr h.n 0 ∧ t.get 27 = .lit (.int .i64 i)) ?_ ?_ _ _ ?_
    · rintro i t h' hlt hc ⟨E, ⟨W, hW, hT, X⟩, hn, g0, g2, g3, g4, g6, g27⟩ ih
      have hc3 : ((i : Int) < 64) = True := by simp only [eq_iff_iff, iff_true]; omega
      have hw := wrap_succ hlt (by omega)
      have ph : IsSl RU64 (fun k => hA.n ≤ k) h' v1 prims := p2.ext E (Nat.le_refl _)
      have hld := u_at ph (i := i) (by omega)
      have hi64 : i < prims.length := by omega
      simp only [core, zrA, zrS, zrM, zrL, zrE, reduceCtorEq, zrD, ziE, ziL, ziN, hn, g0, g2, g3, g4, g6, g27, hc3, hw, q1, q2, hi64, hld]
      refine cube_x.mono ?_
      rintro _ h2 ⟨e2, rfl⟩
      have X2 := (e2.2 _ (at_lt X)).trans X
      have l2 := at_lt X2
      have hp := uL_put (l := W) (i := i) (x := cbF (prims.getD i 0)) (by omega)
      simp only [corem, WB_cond_s, put, ldL, WB_label, List.nil_append, List.drop_zero, List.take_zero, zrA, zrS, zrM, zrL, zrE, reduceCtorEq, zrD, ziE, ziL, ziN, -put, hn, g0, g2, g3, g4, g6, g27, hw, hlt, X2, l2, hp]
      refine ih _ _ ⟨(E.trans (e2.mono E.1)).put _ (Nat.le_refl _), ⟨W.set i _, by rw [List.length_set]; exact hW, ?_, at_put_same _ l2⟩, ?_⟩
      · rw [set_take (by omega), hT, List.take_add_one, List.getElem?_map, List.getElem?_eq_getElem hi64, List.getD_eq_getElem?_getD, List.getElem?_eq_getElem hi64]
        rfl
      · simp only [core, zrA, zrS, zrM, zrL, zrE, reduceCtorEq, zrD, ziE, ziL, ziN, hn, g0, g2, g3, g4, g6, g27]
    · rintro t hC hc ⟨E, ⟨W, hW, hT, XC⟩, hn, g0, g2, g3, g4, g6, g27⟩
      have hc3 : (((64 : Nat) : Int) < 64) = False := by simp
      obtain rfl : W = keyT := by
        rw [List.take_of_length_le (by omega), List.take_of_length_le (by rw [List.length_map]; omega), cb_all] at hT
        exact hT
      have XCA := (E.2 _ (at_lt X2)).trans X2
      have XCB := (E.2 _ (at_lt X)).trans X
      have eHC : Ext H.n H hC := E2.trans (E.mono E2.1)
      have n3 := E.1
      have l3 := at_lt XC
      have l4 := at_lt XCA
      have l5 := at_lt XCB
      have hvC : IsSl RByte F hC v b := hv.ext eHC (Nat.le_refl _)
      clear E E2 p2 X2 X
      have hvI : Ex.isSl v = true := hv.isSl
      have hvL : lenD v = b.length := hv.lenD
      obtain ⟨hD, hhD⟩ : ∃ hD, hD = hC.push (.cells [] 5) := ⟨_, rfl⟩
      have eD : Ext hC.n hC hD := hhD ▸ (Ext.refl _ _).push _ (Nat.le_refl _)
      have XD : hD.at hC.n = some (.cells [] 5) := hhD ▸ at_push_n _ _
      simp only [core, zrA, zrS, zrM, zrL, zrE, reduceCtorEq, zrD, ziE, ziL, ziN, hn, g0, g2, g3, g4, g6, g27, hc3, ← hhD]
      refine WOp_app (fresh_y (n0 := hC.n) XD (Nat.le_refl _) (hvC.ext eD (Nat.le_refl _)) (by omega) eD.1) ?_
      rintro s2 h2 ⟨o2, e2⟩
      have u2 := o2.one
      have e5 : Ext h2.n h2 (h2.push (.cells [.lit (.int .u8 128)] 5)) := (Ext.refl _ _).push _ (Nat.le_refl _)
      have ed := eD.1
      have e2n := e2.1
      simp only [core, zrA, zrS, zrM, zrL, zrE, reduceCtorEq, zrD, ziE, ziL, ziN, hn, g0, g2, g3, g4, g6, g27, u2]
      refine WOp_app (empush_y (y := 128) (o2.ext e5) (by rw [n_push]; omega) (at_push_n h2 _) rfl (by omega)) ?_
      rintro s3 h3 ⟨o3, e3⟩
      have u3 := o3.one
      have E3 : Ext hC.n hC h3 := ((eD.trans (e2.mono ed)).trans (e5.mono (by omega))).trans e3
      simp only [core, zrA, zrS, zrM, zrL, zrE, reduceCtorEq, zrD, ziE, ziL, ziN, hn, g0, g2, g3, g4, g6, g27, u3]
      refine WB_for (padN b.length) (fun i t h' => Ext hC.n hC h' ∧ (∃ m, OwnY hC.n h' m (b ++ [128] ++ List.replicate i 0) ∧ t.get 8 = m) ∧ t.n = 103 ∧ t.get 0 = v ∧ t.get 2 = .ptr H.n 0 ∧ t.get 4 = .ptr h1.n 0 ∧ t.get 6 = .ptr h.n 0) ?_ ?_ _ _ ?_
      · rintro i t h' hlt hc ⟨E, ⟨m, o, g8⟩, hn, g0, g2, g4, g6⟩ ih
        have m1 := o.isSl
        have m2 := o.lenD
        have m3 := o.one
        have hl : (b ++ [128] ++ List.replicate i (0 : UInt8)).length = b.length + 1 + i := by simp; omega
        rw [hl] at m2
        unfold padN at hlt
        have hq : ((((b.length + 1 + i : Nat) : Int).tmod 64) != 56) = true := by
          have : (((b.length + 1 + i : Nat) : Int).tmod 64) = (((b.length + 1 + i) % 64 : Nat) : Int) := rfl
          rw [this]
          simp only [bne_iff_ne, ne_eq]
          omega
        have z1 : ((64 : Int) = 0) = False := by simp
        have e6 : Ext h'.n h' (h'.push (.cells [.lit (.int .u8 0)] 5)) := (Ext.refl _ _).push _ (Nat.le_refl _)
        simp only [core, zrA, zrS, zrM, zrL, zrE, reduceCtorEq, zrD, ziE, ziL, ziN, hn, g0, g2, g4, g6, g8, m1, m2, m3, hq, z1]
        refine WOp_app (push_y (y := 0) (o.ext e6 (Nat.le_refl _)) (by rw [n_push]; have := E.1; omega) (at_push_n h' _) rfl (by rw [hl]; omega)) ?_
        rintro s6 h6 ⟨o6, e7⟩
        have u6 := o6.one
        simp only [core, zrA, zrS, zrM, zrL, zrE, reduceCtorEq, zrD, ziE, ziL, ziN, hn, g0, g2, g4, g6, u6]
        refine ih _ _ ⟨(E.trans (e6.mono E.1)).trans e7, ⟨s6, ?_, ?_⟩, ?_⟩
        · rw [List.replicate_succ', ← List.append_assoc]
          exact o6
        · simp only [core, zrA, zrS, zrM, zrL, zrE, reduceCtorEq, zrD, ziE, ziL, ziN, hn, g0, g2, g4, g6]
        · simp only [core, zrA, zrS, zrM, zrL, zrE, reduceCtorEq, zrD, ziE, ziL, ziN, hn, g0, g2, g4, g6]
      · rintro t h' hc ⟨E, ⟨m, o, g8⟩, hn, g0, g2, g4, g6⟩
        have m1 := o.isSl
        have m2 := o.lenD
        have m3 := o.one
        have hl : (b ++ [128] ++ List.replicate (padN b.length) (0 : UInt8)).length = b.length + 1 + padN b.length := by simp; omega
        rw [hl] at m2
        have hpad : padN b.length < 64 := by unfold padN; omega
        have hq : ((((b.length + 1 + padN b.length : Nat) : Int).tmod 64) != 56) = false := by
          have : (((b.length + 1 + padN b.length : Nat) : Int).tmod 64) = (((b.length + 1 + padN b.length) % 64 : Nat) : Int) := rfl
          rw [this]
          simp only [bne_eq_false_iff_eq]
          unfold padN
          omega
        have z1 : ((64 : Int) = 0) = False := by simp
        simp only [core, zrA, zrS, zrM, zrL, zrE, reduceCtorEq, zrD, ziE, ziL, ziN, hn, g0, g2, g4, g6, g8, m1, m2, m3, hq, z1]
        refine WB_for 8 (fun i t h' => Ext hC.n hC h' ∧ (∃ m, OwnY hC.n h' m (b ++ [128] ++ List.replicate (padN b.length) 0 ++ (List.range i).map (lenB b.length)) ∧ t.get 8 = m) ∧ t.n = 103 ∧ t.get 0 = v ∧ t.get 2 = .ptr H.n 0 ∧ t.get 4 = .ptr h1.n 0 ∧ t.get 6 = .ptr h.n 0 ∧ t.get 9 = .lit (.int .i64 (7 - (i : Int)))) ?_ ?_ _ _ ?_
        · rintro i t h' hlt hc ⟨E, ⟨m, o, g8⟩, hn, g0, g2, g4, g6, g9⟩ ih
          have m1 := o.isSl
          have m3 := o.one
          have hi : (7 - (i : Int)) = ((7 - i : Nat) : Int) := by omega
          have hc3 : ((0 : Int) ≤ ((7 - i : Nat) : Int)) = True := by simp
          have hw : IntKind.i64.wrap (((7 - i : Nat) : Int) - 1) = 7 - ((i + 1 : Nat) : Int) := (wrap_in (by omega) (by omega)).trans (by omega)
          have w1 : IntKind.u64.wrap (b.length : Int) = (b.length : Int) := wrap_u64 (by omega) (by omega)
          have w2 : IntKind.u64.wrap ((b.length : Int) * 8) = ((b.length * 8 : Nat) : Int) := (wrap_u64 (by omega) (by omega)).trans (by omega)
          have w3 : IntKind.i64.wrap (8 * ((7 - i : Nat) : Int)) = ((56 - 8 * i : Nat) : Int) := (wrap_in (by omega) (by omega)).trans (by omega)
          have w4 : IntKind.u64.wrap ((56 - 8 * i : Nat) : Int) = ((56 - 8 * i : Nat) : Int) := wrap_u64 (by omega) (by omega)
          have s2 : ∀ {P : Program} {e : TypeId} {x : Int}, pur P (binOp .shr e (.int .u64 x) (.int .u64 ((56 - 8 * i : Nat) : Int))) = some (.ok (.int .u64 (shrI .u64 x ((56 - 8 * i : Nat) : Int)))) := pb_shr (Int.natCast_nonneg _)
          have hby := len_byte (n := b.length) (i := i) (by omega) hlt
          have e6 : Ext h'.n h' (h'.push (.cells [.lit (.int .u8 ((lenB b.length i).toNat : Int))] 5)) := (Ext.refl _ _).push _ (Nat.le_refl _)
          simp only [core, zrA, zrS, zrM, zrL, zrE, reduceCtorEq, zrD, ziE, ziL, ziN, hn, g0, g2, g4, g6, g9, g8, hi, m1, m3, hc3, hvI, hvL, w1, w2, w3, w4, s2, hby]
          refine WOp_app (push_y (y := lenB b.length i) (o.ext e6 (Nat.le_refl _)) (by rw [n_push]; have := E.1; omega) (at_push_n h' _) rfl (by simp; omega)) ?_
          rintro s6 h6 ⟨o6, e7⟩
          have u6 := o6.one
          simp only [core, zrA, zrS, zrM, zrL, zrE, reduceCtorEq, zrD, ziE, ziL, ziN, hn, g0, g2, g4, g6, g9, hi, u6, hw]
          refine ih _ _ ⟨(E.trans (e6.mono E.1)).trans e7, ⟨s6, ?_, ?_⟩, ?_⟩
          · rw [List.range_succ, List.map_append, ← List.append_assoc]
            exact o6
          · simp only [core, zrA, zrS, zrM, zrL, zrE, reduceCtorEq, zrD, ziE, ziL, ziN, hn, g0, g2, g4, g6, g9]
          · simp only [core, zrA, zrS, zrM, zrL, zrE, reduceCtorEq, zrD, ziE, ziL, ziN, hn, g0, g2, g4, g6, g9]
        · rintro t h' hc ⟨E, ⟨m, o, g8⟩, hn, g0, g2, g4, g6, g9⟩
          have hc3 : ((0 : Int) ≤ 7 - ((8 : Nat) : Int)) = False := by simp
          rw [← padF_eq] at o
          simp only [core, zrA, zrS, zrM, zrL, zrE, reduceCtorEq, zrD, ziE, ziL, ziN, hn, g0, g2, g4, g6, g9, hc3]
          have hmod := pad_mod b
          obtain ⟨N, hN⟩ : ∃ N, N = (padF b).length / 64 := ⟨_, rfl⟩
          have hNl : (padF b).length = 64 * N := by omega
          have hNs : N ≤ 100000000 := by
            have := padF_len b
            omega
          rw [shaF_eq b hN.symm]
          clear hN hmod
          have hn1 : hC.n ≤ h'.n := E.1
          have m1 := o.isSl
          have m2 := o.lenD
          rw [hNl] at m2
          have hcap : CapOk 1 m := by obtain ⟨L, -, -, hc, -⟩ := (o.toSl (F := fun _ => True) (fun _ _ => trivial) fun _ _ => trivial).out; exact hc
          refine WB_for N (fun i t h' => hC.n ≤ h'.n ∧ Ext H.n H h' ∧ h'.at H.n = some (.cells (u8L (List.replicate 32 0)) 46) ∧ h'.at h1.n = some (.cells (uL (blksF keyT (padF b) h0S i).list) 100) ∧ h'.at h.n = some (.cells (uL keyT) 103) ∧ IsSl RByte (fun k => hC.n ≤ k) h' m (padF b) ∧ t.n = 103 ∧ t.get 2 = .ptr H.n 0 ∧ t.get 4 = .ptr h1.n 0 ∧ t.get 6 = .ptr h.n 0 ∧ t.get 8 = m ∧ t.get 10 = .lit (.int .i64 ((64 * i : Nat) : Int))) ?_ ?_ _ _ ?_
          · rintro i t h' hlt hc ⟨y1, y2, y3, y4, y5, y6, hn, g2, g4, g6, g8, g10⟩ ih
            have hc3 : (((64 * i : Nat) : Int) < ((64 * N : Nat) : Int)) = True := by simp only [eq_iff_iff, iff_true]; omega
            have w1 : IntKind.i64.wrap (((64 * i : Nat) : Int) + 64) = ((64 * (i + 1) : Nat) : Int) := (wrap_in (by omega) (by omega)).trans (by omega)
            have hs0 : ((0 : Int) ≤ ((64 * i : Nat) : Int)) = True := by simp only [eq_iff_iff, iff_true]; omega
            have hs1 : (((64 * i : Nat) : Int) ≤ ((64 * (i + 1) : Nat) : Int)) = True := by simp only [eq_iff_iff, iff_true]; omega
            have hs2 : (((64 * (i + 1) : Nat) : Int) ≤ ((64 * N : Nat) : Int)) = True := by simp only [eq_iff_iff, iff_true]; omega
            have q1 := y6.sub (l := 64 * i) (r := 64 * (i + 1)) (by omega) (by rw [hNl]; omega)
            have q2 : ((padF b).take (64 * (i + 1))).drop (64 * i) = ((padF b).drop (64 * i)).take 64 := by
              rw [List.drop_take, show 64 * (i + 1) - 64 * i = 64 by omega]
            rw [q2] at q1
            have hq1 : Ex.isSl (subSl 1 (64 * i) (64 * (i + 1)) m) = true := q1.isSl
            have hq2 := q1.one
            have Lk := ld_at (T := tabOf Tryz.prog NT0) y5
            have Lh := ld_at (T := tabOf Tryz.prog NT0) y4
            have lk := at_lt y5
            have lh := at_lt y4
            have a1 : (uL (blksF keyT (padF b) h0S i).list).length = 8 := rfl
            have a2 : (uL (blksF keyT (padF b) h0S i).list).take 8 = uL (blksF keyT (padF b) h0S i).list := rfl
            have a4 : (uL keyT).length = 64 := rfl
            have a5 : (uL keyT).take 64 = uL keyT := rfl
            have b1 : (uL (blkF keyT (blksF keyT (padF b) h0S i) (((padF b).drop (64 * i)).take 64)).list).length = 8 := rfl
            have b2 : (uL (blkF keyT (blksF keyT (padF b) h0S i) (((padF b).drop (64 * i)).take 64)).list).drop 8 = [] := rfl
            have b3 := uL_ones (blkF keyT (blksF keyT (padF b) h0S i) (((padF b).drop (64 * i)).take 64)).list
            have a3 : (uL (blksF keyT (padF b) h0S i).list).drop 8 = [] := rfl
            have hbl := fun h (q : IsSl RByte (fun k => hC.n ≤ k) h (subSl 1 (64 * i) (64 * (i + 1)) m) (((padF b).drop (64 * i)).take 64)) => blockR_x (H := h) (s := blksF keyT (padF b) h0S i) (ks := keyT) (v := subSl 1 (64 * i) (64 * (i + 1)) m) rfl q (by rw [List.length_take, List.length_drop, hNl]; omega)
            rw [blks_succ] at ih
            generalize blkF keyT (blksF keyT (padF b) h0S i) (((padF b).drop (64 * i)).take 64) = S' at *
            generalize blksF keyT (padF b) h0S i = S at *
            simp only [core, zrA, zrS, zrM, zrL, zrE, reduceCtorEq, zrD, ziE, ziL, ziN, hn, g2, g4, g6, g8, g10, m1, m2, hc3]
            rw [WB_regionD [0, 1, 2, 3, 4, 5, 6, 7, 8] 1205375902807300608360448 (by kernel_rfl)]
            repeat ((with_reducible refine WDM_cons ?_; simp only [dw1]; try simp only [dw2, zrA, zrM, zrR, zrO, zrE]); simp only [core, zrA, zrS, zrM, zrL, zrE, reduceCtorEq, zrD, ziE, ziL, ziN, cored, hn, g2, g4, g6, g8, g10, m1, m2, hcap, hs0, hs1, hs2, w1, Lk, Lh, lk, lh, y4, y5, a1, a2, a4, a5])
            refine ⟨by rw [uL_same, uL_same]; rfl, ?_⟩
            refine (hbl _ q1).mono ?_
            rintro _ h2 ⟨e2, rfl⟩
            have z4 := (e2.2 _ lh).trans y4
            have Lh2 := ld_at (T := tabOf Tryz.prog NT0) z4
            have lh2 := at_lt z4
            have z5 := (e2.2 _ lk).trans y5
            have Lk2 := ld_at (T := tabOf Tryz.prog NT0) z5
            have lk2 := at_lt z5
            repeat ((with_reducible refine WDM_cons ?_; simp only [dw1]; try simp only [dw2, zrA, zrM, zrR, zrO, zrE]); simp only [core, zrA, zrS, zrM, zrL, zrE, reduceCtorEq, zrD, ziE, ziL, ziN, cored, hn, g2, g4, g6, g8, g10, w1, Lk2, Lh2, lk2, lh2, z4, z5, a1, a2, a3, a4, a5, b1, b2, b3])
            have n2' := e2.1
            refine ih _ _ ⟨by rw [n_put]; omega, (y2.trans (e2.mono y2.1)).put _ (by omega), (at_put_ne _ (by omega)).trans ((e2.2 _ (at_lt y3)).trans y3), at_put_same _ lh2, (at_put_ne _ (by omega)).trans z5, ?_, ?_⟩
            · exact (y6.ext e2 (Nat.le_refl _)).lift fun b hb hlt => ⟨at_put_ne _ (by omega), hb⟩
            · simp only [core, zrA, zrS, zrM, zrL, zrE, reduceCtorEq, zrD, ziE, ziL, ziN, hn, g2, g4, g6, g8, g10]
          · rintro t h' hc ⟨y1, y2, y3, y4, y5, y6, hn, g2, g4, g6, g8, g10⟩
            have hc3 : (((64 * N : Nat) : Int) < ((64 * N : Nat) : Int)) = False := by simp
            have hSl : (blksF keyT (padF b) h0S N).list.length = 8 := rfl
            have a1 : (uL (blksF keyT (padF b) h0S N).list).length = 8 := rfl
            have a2 : (uL (blksF keyT (padF b) h0S N).list).take 8 = uL (blksF keyT (padF b) h0S N).list := rfl
            generalize (blksF keyT (padF b) h0S N).list = S at *
            have Lh := ld_at (T := tabOf Tryz.prog NT0) y4
            have lh := at_lt y4
            simp only [core, zrA, zrS, zrM, zrL, zrE, reduceCtorEq, zrD, ziE, ziL, ziN, hn, g2, g4, g6, g8, g10, m1, m2, hc3, hz32, Lh, lh, a1, a2]
            refine WB_for 8 (fun i t g => (∃ W, W.length = 32 ∧ W.take (4 * i) = (outW S).take (4 * i) ∧ g = h'.push (.cells (u8L W) 46)) ∧ t.n = 103 ∧ t.get 2 = .ptr H.n 0 ∧ t.get 11 = .ptr h'.n 0 ∧ t.get 80 = .agg (uL S) ∧ t.get 81 = .lit (.int .i64 i)) ?_ ?_ _ _ ?_
            · rintro i t g hlt hc ⟨⟨W, hW, hT, rfl⟩, hn, g2, g11, g80, g81⟩ ih
              have hc3 : ((i : Int) < 8) = True := by simp only [eq_iff_iff, iff_true]; omega
              have hw := wrap_succ hlt (by omega)
              have hX : ∀ (h : AH) (r : AR), idxM h r 8 (.agg (uL S)) (.lit (.int .i64 (i : Int))) = some (.val (.lit (.int .u32 (S.getD i 0))), h) := fun h r => idxM_nat hlt (uL_scal S) (uL_get (by omega))
              simp only [core, zrA, zrS, zrM, zrL, zrE, reduceCtorEq, zrD, ziE, ziL, ziN, hn, g2, g11, g80, g81, hc3, a_ix8, hX]
              refine WB_for 4 (fun k t g => (∃ W, W.length = 32 ∧ W.take (4 * i + k) = (outW S).take (4 * i + k) ∧ g = h'.push (.cells (u8L W) 46)) ∧ t.n = 103 ∧ t.get 2 = .ptr H.n 0 ∧ t.get 11 = .ptr h'.n 0 ∧ t.get 80 = .agg (uL S) ∧ t.get 81 = .lit (.int .i64 i) ∧ t.get 12 = .lit (.int .i64 i) ∧ t.get 13 = .lit (.int .u32 (S.getD i 0)) ∧ t.get 14 = .lit (.int .i64 k)) ?_ ?_ _ _ ?_
              · rintro k t g hlk hc ⟨⟨W, hW, hT, rfl⟩, hn, g2, g11, g80, g81, g12, g13, g14⟩ ih2
                have hc3 : ((k : Int) < 4) = True := by simp only [eq_iff_iff, iff_true]; omega
                have hwk := wrap_succ hlk (by omega)
                obtain ⟨hG, hhG⟩ : ∃ hG, hG = h'.push (.cells (u8L W) 46) := ⟨_, rfl⟩
                have X : hG.at h'.n = some (.cells (u8L W) 46) := hhG ▸ at_push_n _ _
                have l := at_lt X
                have w1 : IntKind.i64.wrap (4 * (i : Int)) = ((4 * i : Nat) : Int) := (wrap_in (by omega) (by omega)).trans (by omega)
                have w2 : IntKind.i64.wrap (((4 * i : Nat) : Int) + (k : Int)) = ((4 * i + k : Nat) : Int) := (wrap_in (by omega) (by omega)).trans (by omega)
                have w3 : IntKind.i64.wrap (8 * (k : Int)) = ((8 * k : Nat) : Int) := (wrap_in (by omega) (by omega)).trans (by omega)
                have w4 : IntKind.i64.wrap (24 - ((8 * k : Nat) : Int)) = ((24 - 8 * k : Nat) : Int) := (wrap_in (by omega) (by omega)).trans (by omega)
                have w5 : IntKind.u64.wrap ((24 - 8 * k : Nat) : Int) = ((24 - 8 * k : Nat) : Int) := wrap_u64 (by omega) (by omega)
                have s2 : ∀ {P : Program} {e : TypeId} {x : Int}, pur P (binOp .shr e (.int .u32 x) (.int .u64 ((24 - 8 * k : Nat) : Int))) = some (.ok (.int .u32 (shrI .u32 x ((24 - 8 * k : Nat) : Int)))) := pb_shr (Int.natCast_nonneg _)
                have hob := (outW_get (S := S) hlt hlk).symm
                have l4 : 4 * i + k < 32 := by omega
                have hp := u8L_put (l := W) (i := 4 * i + k) (x := outB S (4 * i + k)) (by omega)
                simp only [corem, WB_cond_s, put, ldL, WB_label, List.nil_append, List.drop_zero, List.take_zero, zrA, zrS, zrM, zrL, zrE, reduceCtorEq, zrD, ziE, ziL, ziN, -put, hn, g2, g11, g80, g81, g12, g13, g14, hc3, hwk, ← hhG, X, l, w1, w2, w3, w4, w5, s2, hob, l4, hp]
                subst hhG
                refine ih2 _ _ ⟨⟨W.set (4 * i + k) _, by rw [List.length_set]; exact hW, outW_take (i := 4 * i + k) hT (by omega) l4, by rw [put_push]⟩, ?_⟩
                simp only [core, zrA, zrS, zrM, zrL, zrE, reduceCtorEq, zrD, ziE, ziL, ziN, hn, g2, g11, g80, g81, g12, g13, g14]
              · rintro t g hc ⟨⟨W, hW, hT, rfl⟩, hn, g2, g11, g80, g81, g12, g13, g14⟩
                have hc3 : (((4 : Nat) : Int) < 4) = False := by simp
                simp only [core, zrA, zrS, zrM, zrL, zrE, reduceCtorEq, zrD, ziE, ziL, ziN, hn, g2, g11, g80, g81, g12, g13, g14, hc3, hw]
                refine ih _ _ ⟨⟨W, hW, hT, rfl⟩, ?_⟩
                simp only [core, zrA, zrS, zrM, zrL, zrE, reduceCtorEq, zrD, ziE, ziL, ziN, hn, g2, g11, g80, g81, g12, g13, g14]
              · refine ⟨⟨W, hW, hT, rfl⟩, ?_⟩
                simp only [core, zrA, zrS, zrM, zrL, zrE, reduceCtorEq, zrD, ziE, ziL, ziN, hn, g2, g11, g80, g81]
                rfl
            · rintro t g hc ⟨⟨W, hW, hT, rfl⟩, hn, g2, g11, g80, g81⟩
              have hc3 : (((8 : Nat) : Int) < 8) = False := by simp
              obtain rfl : W = outW S := by
                rw [List.take_of_length_le (by omega), List.take_of_length_le (by rw [outW_len]; omega)] at hT
                exact hT
              obtain ⟨hG, hhG⟩ : ∃ hG, hG = h'.push (.cells (u8L (outW S)) 46) := ⟨_, rfl⟩
              have eG : Ext h'.n h' hG := hhG ▸ (Ext.refl _ _).push _ (Nat.le_refl _)
              have X : hG.at h'.n = some (.cells (u8L (outW S)) 46) := hhG ▸ at_push_n _ _
              have Z : hG.at H.n = some (.cells (u8L (List.replicate 32 0)) 46) := (eG.2 _ (at_lt y3)).trans y3
              have LX := ld_at (T := tabOf Tryz.prog NT0) X
              have lX := at_lt X
              have lZ := at_lt Z
              have b1 : (u8L (outW S)).length = 32 := by rw [u8L_len, outW_len]
              have b2 : (u8L (outW S)).take 32 = u8L (outW S) := List.take_of_length_le (by omega)
              have b3 := u8L_ones (outW S)
              have b4 : (u8L (List.replicate 32 0)).length = 32 := rfl
              have b5 : (u8L (List.replicate 32 0)).drop 32 = [] := rfl
              simp only [core, zrA, zrS, zrM, zrL, zrE, reduceCtorEq, zrD, ziE, ziL, ziN, hn, g2, g11, g80, g81, hc3, ← hhG, X, Z, LX, lX, lZ, b1, b2, b3, b4, b5]
              exact (y2.trans (eG.mono y2.1)).put (p := H.n) _ (Nat.le_refl _)
            · refine ⟨⟨List.replicate 32 0, rfl, rfl, rfl⟩, ?_⟩
              simp only [core, zrA, zrS, zrM, zrL, zrE, reduceCtorEq, zrD, ziE, ziL, ziN, hn, g2, g4, g6, g8, g10]
              rfl
          · refine ⟨hn1, eHC.trans (E.mono (by omega)), (E.2 _ l4).trans XCA, ?_, (E.2 _ l3).trans XC, ?_, ?_⟩
            · rw [blks_zero]
              exact (E.2 _ l5).trans XCB
            · exact o.toSl (fun _ hf => hf.elim) fun _ hb => hb
            · simp only [core, zrA, zrS, zrM, zrL, zrE, reduceCtorEq, zrD, ziE, ziL, ziN, hn, g0, g2, g4, g6, g9, g8]
              rfl
        · refine ⟨E, ⟨m, by simpa using o, ?_⟩, ?_⟩
          · simp only [core, zrA, zrS, zrM, zrL, zrE, reduceCtorEq, zrD, ziE, ziL, ziN, hn, g0, g2, g4, g6, g8]
          · simp only [core, zrA, zrS, zrM, zrL, zrE, reduceCtorEq, zrD, ziE, ziL, ziN, hn, g0, g2, g4, g6]
            rfl
      · refine ⟨E3, ⟨s3, by simpa using o3, ?_⟩, ?_⟩
        · simp only [core, zrA, zrS, zrM, zrL, zrE, reduceCtorEq, zrD, ziE, ziL, ziN, hn, g0, g2, g3, g4, g6, g27]
        · simp only [core, zrA, zrS, zrM, zrL, zrE, reduceCtorEq, zrD, ziE, ziL, ziN, hn, g0, g2, g3, g4, g6, g27]
    · refine ⟨(Ext.refl _ _).push _ (Nat.le_refl _), ⟨List.replicate 64 0, rfl, rfl, at_push_n _ _⟩, ?_⟩
      simp only [core, zrA, zrS, zrM, zrL, zrE, reduceCtorEq, zrD, ziE, ziL, ziN, hn, g0, g2, g3, g4, g16]
      rfl
  · refine ⟨(Ext.refl _ _).push _ (Nat.le_refl _), ⟨List.replicate 8 0, rfl, rfl, at_push_n _ _⟩, ?_⟩
    simp only [core, zrA, zrS, zrM, zrL, zrE, reduceCtorEq, zrD, ziE, ziL, ziN]
    rfl
end Go.Proofs.YtpfibijbieblnaaGreatDoor.Ex
end

section

set_option linter.unusedSimpArgs false
set_option linter.unusedVariables false
set_option maxRecDepth 10000
namespace Go.Proofs.YtpfibijbieblnaaGreatDoor.Ex
open Go
variable {P : Program}
theorem pur_part_int {el : TypeId} {k : IntKind} {xs : Array Value} {off : Nat} {v : Value} (h : P.underlying el = some (.int k)) (hv : xs[off]? = some v) : pur P (part el xs off) = some (.ok v) := by
  unfold part isAgg
  simp only [pur_bind, pur_und h, pur_pure]
  simp only [Bool.false_eq_true, if_false, hv]
  rfl
theorem pur_equalIn_arr (d : Nat) (t el : TypeId) (m : Nat) (k : IntKind) (xs ys : List Int) (ht : P.underlying t = some (.array m el)) (he : P.underlying el = some (.int k)) (hs : pur P (sizeOf el) = some (.ok 1)) (ha : xs.length = m) (hb : ys.length = m) :
    pur P (Op.equalIn (d + 1 + 1) t (.agg (xs.map (Value.int k)).toArray) (.agg (ys.map (Value.int k)).toArray)) = some (.ok (xs == ys)) := by
  rw [Op.equalIn]
  simp only [pur_bind, pur_und ht, hs]
  rw [Std.Legacy.Range.forIn_eq_forIn_range']
  simp only [Nat.mul_one, Std.Legacy.Range.size, Nat.sub_zero, Nat.add_sub_cancel, Nat.div_one]
  have key : ∀ (n s : Nat), s + n = m → pur P (forIn (List.range' s n) ((none : Option Bool), ()) fun i __s => (do
          let a ← part el (List.map (Value.int k) xs).toArray i
          let b ← part el (List.map (Value.int k) ys).toArray i
          let c ← Op.equalIn (d + 1) el a b
          if (!c) = true then pure (ForInStep.done (some false, ()))
            else pure (ForInStep.yield (none, ())) : Sem (ForInStep (Option Bool × Unit)))) = some (.ok (if (xs.drop s == ys.drop s) = true then (none, ()) else (some false, ()))) := by
    intro n
    induction n with
    | zero =>
      intro s hs
      rw [List.drop_eq_nil_of_le (by omega), List.drop_eq_nil_of_le (by omega)]
      rfl
    | succ n ih =>
      intro s hsn
      have h1 : s < xs.length := by omega
      have h2 : s < ys.length := by omega
      have g1 : (List.map (Value.int k) xs).toArray[s]? = some (.int k xs[s]) := by simp [h1]
      have g2 : (List.map (Value.int k) ys).toArray[s]? = some (.int k ys[s]) := by simp [h2]
      rw [List.range'_succ, List.forIn_cons]
      simp only [pur_bind, pur_part_int he g1, pur_part_int he g2, pur_equalIn_int d el k k _ _ he, pur_ite, pur_pure]
      rw [List.drop_eq_getElem_cons h1, List.drop_eq_getElem_cons h2, List.cons_beq_cons]
      cases hb : (xs[s] == ys[s]) with
      | true =>
        simp only [Bool.not_true, Bool.false_eq_true, if_false, Bool.true_and]
        exact ih (s + 1) (by omega)
      | false =>
        simp only [Bool.not_false, if_true, Bool.false_and, Bool.false_eq_true, if_false]
        rfl
  rw [key m 0 (by omega)]
  rw [List.drop_zero, List.drop_zero]
  cases hb : (xs == ys) <;> rfl
variable {d : Option Tmp} {ty : TypeId} {ps : String} {af : Array Edge} {g : Option (Nat × Bool)} {f : TypeId} {t : TM} {h : AH}
/-- Values from many cells compared, as the model does. -/
theorem a_eqG {T : TT} {e : TypeId} {i j : Nat} {cx cy : List AV} {vx vy : List Value} {b : Bool} (hm : P.eqGuardType P.depth e = false) (hx : toScals cx = some vx) (hy : toScals cy = some vy) (he : pur P (Op.equal e (.agg vx.toArray) (.agg vy.toArray)) = some (.ok b)) (hi : t.get i = .agg cx) (hj : t.get j = .agg cy) :
    aBin P T ⟨d, .binOp .eql e (.tmp i) (.tmp j) f, ty, ps, af, g⟩ t h .eql e (.tmp i) (.tmp j) = some (.val (.lit (.bool b)), h) := by
  have e1 : evalA t (.tmp i) = some (.agg cx) := by rw [ev_tmp, hi]
  have e2 : evalA t (.tmp j) = some (.agg cy) := by rw [ev_tmp, hj]
  have l1 : litEnv t (.tmp i) = .agg vx.toArray := by simp [litEnv, e1, toVal, hx]
  have l2 : litEnv t (.tmp j) = .agg vy.toArray := by simp [litEnv, e2, toVal, hy]
  have hl : litOp P ⟨d, .binOp .eql e (.tmp i) (.tmp j) f, ty, ps, af, g⟩ t = some (.val (.lit (.bool b))) := by
    unfold litOp
    rw [if_pos (by
      show (notSelect _ && litAll t [.tmp i, .tmp j]) = true
      simp [litAll, e1, e2, toVal, hx, hy, notSelect])]
    have : pur P (execOp (litEnv t) ⟨d, .binOp .eql e (.tmp i) (.tmp j) f, ty, ps, af, g⟩) = some (.ok (.value (.bool b))) := by
      show pur P (do pure (Next.value (← (do eqGuard .eql e (.tmp i) (.tmp j) (litEnv t (.tmp i)) (litEnv t (.tmp j)); binOp .eql e (litEnv t (.tmp i)) (litEnv t (.tmp j)))))) = _
      rw [l1, l2]
      have hg : pur P (eqGuard .eql e (.tmp i) (.tmp j) (.agg vx.toArray) (.agg vy.toArray)) = some (.ok ()) := by
        simp [eqGuard, pur_bind, pur_program, hm, pur_pure]
      have hb : pur P (binOp .eql e (.agg vx.toArray) (.agg vy.toArray)) = some (.ok (.bool b)) := by
        show pur P (do pure (Value.bool (← Op.equal e (.agg vx.toArray) (.agg vy.toArray)))) = _
        simp only [pur_bind, he, pur_pure]
      simp only [pur_bind, hg, hb, pur_pure]
    rw [this]
    rfl
  unfold aBin
  rw [e1, e2]
  show orLit _ _ _ _ _ = _
  unfold orLit
  rw [hl]
/-- Digests, and parts of a manifest. -/
theorem toScals_u8 : ∀ l : List Int, toScals (u8L l) = some (l.map (Value.int .u8))
  | [] => rfl
  | x :: r => by show (toScals (u8L r)).map _ = _; rw [toScals_u8 r]; rfl
def partC (b : List UInt8) : List AV := .lit (.int .i64 (b.length : Int)) :: u8L (shaF b)
theorem pur_eq_sha (xs ys : List Int) (hx : xs.length = 32) (hy : ys.length = 32) : pur Tryz.prog (Op.equalIn (9997 + 1 + 1) 46 (.agg (xs.map (Value.int .u8)).toArray) (.agg (ys.map (Value.int .u8)).toArray)) = some (.ok (xs == ys)) :=
  pur_equalIn_arr 9997 46 5 32 .u8 xs ys (by kernel_rfl) (by kernel_rfl) (by kernel_rfl) hx hy
theorem pur_eq_sha2 (xs ys : List Int) (hx : xs.length = 32) (hy : ys.length = 32) : pur Tryz.prog (Op.equal 46 (.agg (xs.map (Value.int .u8)).toArray) (.agg (ys.map (Value.int .u8)).toArray)) = some (.ok (xs == ys)) := by
  show pur Tryz.prog (Op.equalIn (9998 + 1 + 1) 46 _ _) = _
  exact pur_equalIn_arr 9998 46 5 32 .u8 xs ys (by kernel_rfl) (by kernel_rfl) (by kernel_rfl) hx hy
theorem pur_eq_part (e : TypeId) (a b : Int) (xs ys : List Int) (hx : xs.length = 32) (hy : ys.length = 32) (hu : Tryz.prog.underlying e = some (.struct (Tryz.prog.fieldsOf e))) (hst : Tryz.prog.stoodInHeld e = false)
    (hf : ∃ f0 f1 : Field, (Tryz.prog.fieldsOf e).toList = [f0, f1] ∧ f0.name ≠ "_" ∧ f1.name ≠ "_" ∧ f0.type = 3 ∧ f1.type = 46 ∧ f0.offset = 0 ∧ f1.offset = 1) :
    pur Tryz.prog (Op.equal e (.agg (Value.int .i64 a :: xs.map (Value.int .u8)).toArray) (.agg (Value.int .i64 b :: ys.map (Value.int .u8)).toArray)) = some (.ok ((a == b) && (xs == ys))) := by
  show pur Tryz.prog (Op.equalIn (9999 + 1) e _ _) = _
  rw [pur_equalIn_struct 9999 e _ _ hu hst]
  obtain ⟨f0, f1, hf, n0, n1, t0, t1, z0, z1⟩ := hf
  rw [hf]
  have p0 : ∀ (x : Int) (l : List Value), pur Tryz.prog (part 3 (Value.int .i64 x :: l).toArray 0) = some (.ok (.int .i64 x)) := fun x l => pur_part_int (k := .i64) (by kernel_rfl) rfl
  have p1 : ∀ (x : Int) (l : List Value), l.length = 32 → pur Tryz.prog (part 46 (Value.int .i64 x :: l).toArray 1) = some (.ok (.agg l.toArray)) := fun x l hl => by
    have hs : pur Tryz.prog (sizeOf 46) = some (.ok 32) := by kernel_rfl
    have ha : pur Tryz.prog (isAgg 46) = some (.ok true) := by kernel_rfl
    unfold part
    simp only [pur_bind, ha, hs, if_true, pur_pure]
    congr 3
    rw [List.extract_toArray]
    congr 1
    show List.take 32 l = l
    rw [← hl, List.take_length]
  have q : ∀ x y : Int, pur Tryz.prog (Op.equalIn 9999 3 (.int .i64 x) (.int .i64 y)) = some (.ok (x == y)) := fun x y => pur_equalIn_int 9998 3 .i64 .i64 x y Tryz.underlying3
  have q2 := pur_eq_sha xs ys hx hy
  rw [show (9997 + 1 + 1 : Nat) = 9999 from rfl] at q2
  simp only [Op.eqFields, n0, n1, t0, t1, z0, z1, ne_eq, not_false_eq_true, if_true, pur_bind, p0, p1 _ (xs.map (Value.int .u8)) (by rw [List.length_map]; exact hx), p1 _ (ys.map (Value.int .u8)) (by rw [List.length_map]; exact hy), q, q2, pur_ite, pur_pure]
  cases (a == b) <;> cases (xs == ys) <;> rfl
theorem a_eqSha {i j : Nat} {x y : List Int} (hx : x.length = 32) (hy : y.length = 32) (hi : t.get i = .agg (u8L x)) (hj : t.get j = .agg (u8L y)) :
    aBinR Tryz.prog (tabOf Tryz.prog NT0) ⟨d, .binOp .eql 46 (.tmp i) (.tmp j) f, ty, ps, af, g⟩ t h .eql 46 (.tmp i) (.tmp j) = some (.val (.lit (.bool (x == y))), h) :=
  a_eqG (by kernel_rfl) (toScals_u8 x) (toScals_u8 y) (pur_eq_sha2 x y hx hy) hi hj
/-- A part's cells, of any digest. -/
def partG (a : Int) (X : List Int) : List AV := .lit (.int .i64 a) :: u8L X
theorem partC_G (b : List UInt8) {X : List Int} (h : shaF b = X) : partC b = partG (b.length : Int) X := by subst h; rfl
theorem toScals_G (a : Int) (X : List Int) : toScals (partG a X) = some (.int .i64 a :: X.map (Value.int .u8)) := by
  show (toScals (u8L X)).map _ = _
  rw [toScals_u8]
  rfl
theorem a_eqPartA {i j : Nat} {a b : Int} {X Y : List Int} (hX : X.length = 32) (hY : Y.length = 32) (hi : t.get i = .agg (partG a X)) (hj : t.get j = .agg (partG b Y)) :
    aop Tryz.prog (tabOf Tryz.prog NT0) ⟨d, .binOp .eql 57 (.tmp i) (.tmp j) f, ty, ps, af, g⟩ t h = some (.val (.lit (.bool ((a == b) && (X == Y)))), h) :=
  a_eqG (by kernel_rfl) (toScals_G a X) (toScals_G b Y) (pur_eq_part 57 _ _ _ _ hX hY (by kernel_rfl) (by kernel_rfl) (by
    unfold Program.fieldsOf
    rw [Tryz.underlying57]
    exact ⟨_, _, rfl, by decide, by decide, rfl, rfl, rfl, rfl⟩)) hi hj
theorem a_eqShaA {i j : Nat} {x y : List Int} (hx : x.length = 32) (hy : y.length = 32) (hi : t.get i = .agg (u8L x)) (hj : t.get j = .agg (u8L y)) :
    aop Tryz.prog (tabOf Tryz.prog NT0) ⟨d, .binOp .eql 46 (.tmp i) (.tmp j) f, ty, ps, af, g⟩ t h = some (.val (.lit (.bool (x == y))), h) := a_eqSha hx hy hi hj
end Go.Proofs.YtpfibijbieblnaaGreatDoor.Ex
end

section

set_option linter.unusedSimpArgs false
set_option linter.unusedVariables false
set_option maxRecDepth 10000
set_option maxHeartbeats 8000000
namespace Go.Proofs.YtpfibijbieblnaaGreatDoor.Ex
open Go
theorem partC_len (b : List UInt8) : (partC b).length = 33 := by
  show (u8L (shaF b)).length + 1 = 33
  rw [u8L_len, shaF_len]
def RPart : Rep (List UInt8) where
  z := 33
  is _ _ c x := c = partC x
  len := fun h => by subst h; exact partC_len _
  one := fun {F h c x} e v hv => by
    subst e
    have : (partC x).all AV.one = true := by show (true && (u8L (shaF x)).all AV.one) = true; rw [u8L_ones]; rfl
    exact List.all_eq_true.1 this v hv
  lift := fun h _ => h
theorem RPart_z : RPart.z = 33 := rfl
theorem part_ones (b : List UInt8) : (partC b).all AV.one = true := by show (true && (u8L (shaF b)).all AV.one) = true; rw [u8L_ones]; rfl
theorem push_p {n0 q : Nat} {h : AH} {v : AV} {xs : List (List UInt8)} {x : List UInt8} {cap : Cap} {e' : TypeId} (ho : OwnL RPart (fun _ => False) n0 h v 57 xs) (hn0 : n0 ≤ h.n) (A : h.at q = some (.cells (partC x) e')) (hl : xs.length ≤ 1000000000) :
    ∃ s' h', appendA (tabOf Tryz.prog NT0) h 25 25 v (.sl q 0 1 cap) = some (s', h') ∧ OwnL RPart (fun _ => False) n0 h' s' 57 (xs ++ [x]) ∧ Ext n0 h h' := by
  obtain ⟨s', h', a, b, c, d⟩ := ho.snoc (T := tabOf Tryz.prog NT0) (t := 25) (tx := 25) (y := x) (cap := cap) (by kernel_rfl) (by kernel_rfl) (by kernel_rfl) (zv := .agg (.lit (.int .i64 0) :: u8L (List.replicate 32 0))) (by kernel_rfl) (by' := 40) (by kernel_rfl) (by kernel_rfl) (by decide) (by decide) A rfl (by omega) (by omega) hn0
  exact ⟨s', h', a, b, c⟩
theorem push_pR {n0 q : Nat} {h : AH} {v : AV} {xs : List (List UInt8)} {x : List UInt8} {cap : Cap} {e' : TypeId} (ho : OwnL RPart (fun _ => False) n0 h v 58 xs) (hn0 : n0 ≤ h.n) (A : h.at q = some (.cells (partC x) e')) (hl : xs.length ≤ 1000000000) :
    ∃ s' h', appendA (tabOf Tryz.prog NT0) h 29 29 v (.sl q 0 1 cap) = some (s', h') ∧ OwnL RPart (fun _ => False) n0 h' s' 58 (xs ++ [x]) ∧ Ext n0 h h' := by
  obtain ⟨s', h', a, b, c, d⟩ := ho.snoc (T := tabOf Tryz.prog NT0) (t := 29) (tx := 29) (y := x) (cap := cap) (by kernel_rfl) (by kernel_rfl) (by kernel_rfl) (zv := .agg (.lit (.int .i64 0) :: u8L (List.replicate 32 0))) (by kernel_rfl) (by' := 40) (by kernel_rfl) (by kernel_rfl) (by decide) (by decide) A rfl (by omega) (by omega) hn0
  exact ⟨s', h', a, b, c⟩
theorem own_lift {n0 : Nat} {h h' : AH} {w : AV} {e : TypeId} {xs : List (List UInt8)} (ho : OwnL RPart (fun _ => False) n0 h w e xs) (hk : ∀ k, n0 ≤ k → k < h.n → h'.at k = h.at k) : OwnL RPart (fun _ => False) n0 h' w e xs := by
  refine ho.lift (fun b off n cap hv => ?_) (fun b hf => hf.elim)
  obtain ⟨L, h1, h2⟩ := ho
  rcases h1.2 with ⟨hh, _⟩ | ⟨p, hh, hp, hat⟩
  · rw [hh] at hv; cases hv
  · rw [hh] at hv; cases hv; exact hk _ hp (at_lt hat)
theorem make_x {H : AH} {v : AV} {s : ByteArray} {F : Nat → Prop} {parts : List (List UInt8)} (hv : IsSl (RSl RByte) F H v parts) (hl : parts.length ≤ 1000000) (hb : ∀ b ∈ parts, b.length ≤ 1000000000) :
    WC Tryz.prog (tabOf Tryz.prog NT0) S0 5 [.lit (.string s), v] H fun r h' => Ext H.n H h' ∧ ∃ w, r = .agg [.lit (.string s), w] ∧ IsSl RPart (fun k => H.n ≤ k) h' w parts := by
  refine WC_fn Tryz.func5 rfl rfl ?_
  have v1 := hv.isSl
  have v2 := hv.lenD
  obtain ⟨hA, hhA⟩ : ∃ hA, hA = H.push (.cells [AV.lit (Value.string { data := #[] }), AV.lit (Value.slice none 0 0)] 27) := ⟨_, rfl⟩
  have eA : Ext H.n H hA := hhA ▸ (Ext.refl _ _).push _ (Nat.le_refl _)
  have nA : hA.n = H.n + 1 := hhA ▸ n_push _ _
  have XA : hA.at H.n = some (.cells [AV.lit (Value.string { data := #[] }), AV.lit (Value.slice none 0 0)] 27) := hhA ▸ at_push_n _ _
  obtain ⟨hB, hhB⟩ : ∃ hB, hB = hA.push (.cells [AV.lit (Value.string s), AV.lit (Value.slice none 0 0)] 27) := ⟨_, rfl⟩
  have eB : Ext hA.n hA hB := hhB ▸ (Ext.refl _ _).push _ (Nat.le_refl _)
  have nB : hB.n = hA.n + 1 := hhB ▸ n_push _ _
  have XB : hB.at hA.n = some (.cells [AV.lit (Value.string s), AV.lit (Value.slice none 0 0)] 27) := hhB ▸ at_push_n _ _
  have XBA := (eB.2 _ (at_lt XA)).trans XA
  have lXB := at_lt XB
  have EB : Ext H.n H hB := eA.trans (eB.mono (by omega))
  simp only [core, zrA, zrS, zrM, zrL, zrE, reduceCtorEq, zrD, ziE, ziL, ziN, Tryz.ntmps5, ← hhA, ← hhB, v1, v2]
  refine newE_x.mono ?_
  rintro _ hC ⟨pe, rfl, eC, hpe, hE⟩
  have nC := eC.1
  have lpe := hE.lt
  have XC := (eC.2 _ (at_lt XB)).trans XB
  have XCA := (eC.2 _ (at_lt XBA)).trans XBA
  have EC : Ext H.n H hC := EB.trans (eC.mono EB.1)
  simp only [core, zrA, zrS, zrM, zrL, zrE, reduceCtorEq, zrD, ziE, ziL, ziN, v1, v2]
  refine WB_for parts.length (fun i t h => Ext H.n H h ∧ hC.n ≤ h.n ∧ h.at H.n = some (.cells [AV.lit (Value.string { data := #[] }), AV.lit (Value.slice none 0 0)] 27) ∧ Eng h pe ∧ (∃ w, h.at hA.n = some (.cells [AV.lit (Value.string s), w] 27) ∧ OwnL RPart (fun _ => False) hC.n h w 57 (parts.take i)) ∧ t.n = 31 ∧ t.get 4 = .ptr H.n 0 ∧ t.get 5 = .ptr hA.n 0 ∧ t.get 12 = v ∧ t.get 13 = .lit (.int .i64 parts.length) ∧ t.get 14 = .lit (.int .i64 i) ∧ t.get 6 = .ptr pe 0) ?_ ?_ _ _ ?_
  · rintro i t h hlt hc ⟨E, y1, y2, hE, ⟨w, y3, y4⟩, hn, g4, g5, g12, g13, g14, g6⟩ ih
    have hc3 : ((i : Int) < (parts.length : Int)) = True := by simp only [eq_iff_iff, iff_true]; omega
    have hw := wrap_succ hlt (by omega)
    have u1 := y4.isSl
    have u2 := y4.one
    obtain ⟨b, hbi⟩ : ∃ b, parts[i]? = some b := ⟨_, List.getElem?_eq_getElem hlt⟩
    have hbl := hb b (List.mem_of_getElem? hbi)
    obtain ⟨c, hcc, -, hld⟩ := hv.atE (T := tabOf Tryz.prog NT0) E (z := 1) rfl hbi
    obtain ⟨x, rfl, hx⟩ := RSl_is.1 hcc
    have hld := hld 23 1 (by kernel_rfl) (by decide) (Nat.le_refl _)
    rw [Nat.mul_one] at hld
    have hxh : IsSl RByte (fun k => k < H.n) h x b := hx.lift fun k _ hlt => ⟨E.2 k hlt, hlt⟩
    have x1 := hx.isSl
    have x2 := hx.lenD
    have x3 := hx.one
    have LX := ld_at (T := tabOf Tryz.prog NT0) y3
    have lX := at_lt y3
    simp only [core, zrA, zrS, zrM, zrL, zrE, reduceCtorEq, zrD, ziE, ziL, ziN, hn, g4, g5, g12, g13, g14, g6, hc3, hlt, v1, v2, hld, x1, x2, x3]
    rw [WB_regionD [0, 1, 2, 3, 4, 5, 6, 7, 8, 9, 10, 11] 11146288047483213339435577443096539309281280 (by kernel_rfl)]
    repeat ((with_reducible refine WDM_cons ?_; simp only [dw1]; try simp only [dw2, zrA, zrM, zrR, zrO, zrE]); simp only [core, zrA, zrS, zrM, zrL, zrE, reduceCtorEq, zrD, ziE, ziL, ziN, cored, hn, g4, g5, g12, g13, g14, g6, y3, LX, lX, u1, u2, x1, x2, x3])
    refine (sha_x hE hxh (fun k hk => by omega) hbl).mono ?_
    rintro _ h2 ⟨rfl, n2, k2, hE2⟩
    have z2 := (k2 _ (by omega) (by omega)).trans y2
    have z3 := (k2 _ (by omega) (by omega)).trans y3
    have z4 := own_lift y4 (h' := h2) (fun k hk hlt => k2 k hlt (by omega))
    have E2 : Ext H.n H h2 := ⟨by have := E.1; omega, fun k hk => (k2 k (by have := E.1; omega) (by omega)).trans (E.2 k hk)⟩
    have LX2 := ld_at (T := tabOf Tryz.prog NT0) z3
    have lX2 := at_lt z3
    have b1 : (u8L (shaF b)).length = 32 := by rw [u8L_len, shaF_len]
    have b2 : (u8L (shaF b)).take 32 = u8L (shaF b) := List.take_of_length_le (by omega)
    have b3 := u8L_ones (shaF b)
    have hpc : AV.lit (.int .i64 (b.length : Int)) :: u8L (shaF b) = partC b := rfl
    have p1 := partC_len b
    have p2 := part_ones b
    have p3 : (partC b).drop 33 = [] := List.drop_eq_nil_of_le (by omega)
    repeat ((with_reducible refine WDM_cons ?_; simp only [dw1]; try simp only [dw2, zrA, zrM, zrR, zrO, zrE]); simp only [core, zrA, zrS, zrM, zrL, zrE, reduceCtorEq, zrD, ziE, ziL, ziN, cored, hn, g4, g5, g12, g13, g14, g6, z3, LX2, lX2, u1, u2, b1, b2, b3, hpc, p1, p2])
    have e5 : Ext h2.n h2 (h2.push (.cells (partC b) 57)) := (Ext.refl _ _).push _ (Nat.le_refl _)
    refine WOpD_app (push_p (z4.ext e5 (Nat.le_refl _)) (by rw [n_push]; omega) (at_push_n h2 _) (by rw [List.length_take]; omega)) ?_
    rintro s6 h6 ⟨o6, e6⟩
    have u6 := o6.one
    have k6 : ∀ k, k < hC.n → h6.at k = h2.at k := fun k hk => (e6.2 k hk).trans (e5.2 k (by omega))
    have w3 := (k6 _ (by omega)).trans z3
    have LX6 := ld_at (T := tabOf Tryz.prog NT0) w3
    have lX6 := at_lt w3
    have n6 := e6.1
    rw [n_push] at n6
    repeat ((with_reducible refine WDM_cons ?_; simp only [dw1]; try simp only [dw2, zrA, zrM, zrR, zrO, zrE]); simp only [core, zrA, zrS, zrM, zrL, zrE, reduceCtorEq, zrD, ziE, ziL, ziN, cored, hn, g4, g5, g12, g13, g14, g6, w3, LX6, lX6, u6])
    try simp only [core, zrA, zrS, zrM, zrL, zrE, reduceCtorEq, zrD, ziE, ziL, ziN, hn, g4, g5, g12, g13, g14, g6, hw]
    have hE6 : Eng (h6.put hA.n (.cells [AV.lit (Value.string s), s6] 27)) pe := by
      obtain ⟨cs, e, n, f1, f2⟩ := hE2
      exact ⟨cs, e, n, (at_put_ne _ (by omega)).trans ((k6 _ (by omega)).trans f1), f2⟩
    refine ih _ _ ⟨?_, by rw [n_put]; omega, (at_put_ne _ (by omega)).trans ((k6 _ (by omega)).trans z2), hE6, ⟨s6, at_put_same _ lX6, ?_⟩, ?_⟩
    · exact (E2.trans ⟨by omega, fun k hk => k6 k (by have := EC.1; omega)⟩ : Ext H.n H h6).put _ (by omega)
    · rw [show parts.take (i + 1) = parts.take i ++ [b] by rw [List.take_add_one, hbi]; rfl]
      exact own_lift o6 fun k hk hlt => at_put_ne _ (by omega)
    · simp only [core, zrA, zrS, zrM, zrL, zrE, reduceCtorEq, zrD, ziE, ziL, ziN, hn, g4, g5, g12, g13, g14, g6, hw]
  · rintro t h hc ⟨E, y1, y2, hE, ⟨w, y3, y4⟩, hn, g4, g5, g12, g13, g14, g6⟩
    have hc3 : ((parts.length : Int) < (parts.length : Int)) = False := by simp
    rw [List.take_length] at y4
    have u2 := y4.one
    have LX := ld_at (T := tabOf Tryz.prog NT0) y3
    have lX := at_lt y3
    have l2 := at_lt y2
    simp only [core, zrA, zrS, zrM, zrL, zrE, reduceCtorEq, zrD, ziE, ziL, ziN, hn, g4, g5, g12, g13, g14, g6, hc3, LX, lX, y2, l2, u2]
    have := EC.1
    exact ⟨E.put _ (Nat.le_refl _), w, rfl, (own_lift y4 (h' := h.put H.n _) fun k hk hlt => at_put_ne _ (by omega)).toSl (fun _ hf => hf.elim) fun k hk => by omega⟩
  · refine ⟨EC, Nat.le_refl _, XCA, hE, ⟨_, XC, OwnL.nil⟩, ?_⟩
    simp only [core, zrA, zrS, zrM, zrL, zrE, reduceCtorEq, zrD, ziE, ziL, ziN]
    rfl
theorem makeR_x {H : AH} {v : AV} {s : ByteArray} {F : Nat → Prop} {parts : List (List UInt8)} (hv : IsSl (RSl RByte) F H v parts) (hl : parts.length ≤ 1000000) (hb : ∀ b ∈ parts, b.length ≤ 1000000000) :
    WC Tryz.prog (tabOf Tryz.prog NT0) S0 6 [.lit (.string s), v] H fun r h' => Ext H.n H h' ∧ ∃ w, r = .agg [.lit (.string s), w] ∧ IsSl RPart (fun k => H.n ≤ k) h' w parts := by
  refine WC_fn Tryz.func6 rfl rfl ?_
  have v1 := hv.isSl
  have v2 := hv.lenD
  obtain ⟨hA, hhA⟩ : ∃ hA, hA = H.push (.cells [AV.lit (Value.string { data := #[] }), AV.lit (Value.slice none 0 0)] 31) := ⟨_, rfl⟩
  have eA : Ext H.n H hA := hhA ▸ (Ext.refl _ _).push _ (Nat.le_refl _)
  have nA : hA.n = H.n + 1 := hhA ▸ n_push _ _
  have XA : hA.at H.n = some (.cells [AV.lit (Value.string { data := #[] }), AV.lit (Value.slice none 0 0)] 31) := hhA ▸ at_push_n _ _
  obtain ⟨hB, hhB⟩ : ∃ hB, hB = hA.push (.cells [AV.lit (Value.string s), AV.lit (Value.slice none 0 0)] 31) := ⟨_, rfl⟩
  have eB : Ext hA.n hA hB := hhB ▸ (Ext.refl _ _).push _ (Nat.le_refl _)
  have nB : hB.n = hA.n + 1 := hhB ▸ n_push _ _
  have XB : hB.at hA.n = some (.cells [AV.lit (Value.string s), AV.lit (Value.slice none 0 0)] 31) := hhB ▸ at_push_n _ _
  have XBA := (eB.2 _ (at_lt XA)).trans XA
  have lXB := at_lt XB
  have EB : Ext H.n H hB := eA.trans (eB.mono (by omega))
  simp only [core, zrA, zrS, zrM, zrL, zrE, reduceCtorEq, zrD, ziE, ziL, ziN, Tryz.ntmps6, ← hhA, ← hhB, v1, v2]
  obtain ⟨hC, hhC⟩ : ∃ hC, hC = hB := ⟨_, rfl⟩
  have nC : hB.n ≤ hC.n := by rw [hhC]; exact Nat.le_refl _
  have XC := XB
  have XCA := XBA
  have EC := EB
  rw [← hhC] at XC XCA EC ⊢
  refine WB_for parts.length (fun i t h => Ext H.n H h ∧ hC.n ≤ h.n ∧ h.at H.n = some (.cells [AV.lit (Value.string { data := #[] }), AV.lit (Value.slice none 0 0)] 31) ∧ (∃ w, h.at hA.n = some (.cells [AV.lit (Value.string s), w] 31) ∧ OwnL RPart (fun _ => False) hC.n h w 58 (parts.take i)) ∧ t.n = 28 ∧ t.get 4 = .ptr H.n 0 ∧ t.get 5 = .ptr hA.n 0 ∧ t.get 10 = v ∧ t.get 11 = .lit (.int .i64 parts.length) ∧ t.get 12 = .lit (.int .i64 i)) ?_ ?_ _ _ ?_
  · rintro i t h hlt hc ⟨E, y1, y2, ⟨w, y3, y4⟩, hn, g4, g5, g10, g11, g12⟩ ih
    have hc3 : ((i : Int) < (parts.length : Int)) = True := by simp only [eq_iff_iff, iff_true]; omega
    have hw := wrap_succ hlt (by omega)
    have u1 := y4.isSl
    have u2 := y4.one
    obtain ⟨b, hbi⟩ : ∃ b, parts[i]? = some b := ⟨_, List.getElem?_eq_getElem hlt⟩
    have hbl := hb b (List.mem_of_getElem? hbi)
    obtain ⟨c, hcc, -, hld⟩ := hv.atE (T := tabOf Tryz.prog NT0) E (z := 1) rfl hbi
    obtain ⟨x, rfl, hx⟩ := RSl_is.1 hcc
    have hld := hld 23 1 (by kernel_rfl) (by decide) (Nat.le_refl _)
    rw [Nat.mul_one] at hld
    have hxh : IsSl RByte (fun k => k < H.n) h x b := hx.lift fun k _ hlt => ⟨E.2 k hlt, hlt⟩
    have x1 := hx.isSl
    have x2 := hx.lenD
    have x3 := hx.one
    have LX := ld_at (T := tabOf Tryz.prog NT0) y3
    have lX := at_lt y3
    simp only [core, zrA, zrS, zrM, zrL, zrE, reduceCtorEq, zrD, ziE, ziL, ziN, hn, g4, g5, g10, g11, g12, hc3, hlt, v1, v2, hld, x1, x2, x3]
    rw [WB_regionD [0, 1, 2, 3, 4, 5, 6, 7, 8, 9, 10] 1328253885236060761050814597849679872 (by kernel_rfl)]
    repeat ((with_reducible refine WDM_cons ?_; simp only [dw1]; try simp only [dw2, zrA, zrM, zrR, zrO, zrE]); simp only [core, zrA, zrS, zrM, zrL, zrE, reduceCtorEq, zrD, ziE, ziL, ziN, cored, hn, g4, g5, g10, g11, g12, y3, LX, lX, u1, u2, x1, x2, x3])
    refine (shaR_x hxh hbl).mono ?_
    rintro _ h2 ⟨e2, rfl⟩
    have n2 := e2.1
    have z2 := (e2.2 _ (by omega)).trans y2
    have z3 := (e2.2 _ (by omega)).trans y3
    have z4 := own_lift y4 (h' := h2) (fun k hk hlt => e2.2 k hlt)
    have E2 : Ext H.n H h2 := E.trans (e2.mono E.1)
    have LX2 := ld_at (T := tabOf Tryz.prog NT0) z3
    have lX2 := at_lt z3
    have b1 : (u8L (shaF b)).length = 32 := by rw [u8L_len, shaF_len]
    have b2 : (u8L (shaF b)).take 32 = u8L (shaF b) := List.take_of_length_le (by omega)
    have b3 := u8L_ones (shaF b)
    have hpc : AV.lit (.int .i64 (b.length : Int)) :: u8L (shaF b) = partC b := rfl
    have p1 := partC_len b
    have p2 := part_ones b
    have p3 : (partC b).drop 33 = [] := List.drop_eq_nil_of_le (by omega)
    repeat ((with_reducible refine WDM_cons ?_; simp only [dw1]; try simp only [dw2, zrA, zrM, zrR, zrO, zrE]); simp only [core, zrA, zrS, zrM, zrL, zrE, reduceCtorEq, zrD, ziE, ziL, ziN, cored, hn, g4, g5, g10, g11, g12, z3, LX2, lX2, u1, u2, b1, b2, b3, hpc, p1, p2])
    have e5 : Ext h2.n h2 (h2.push (.cells (partC b) 58)) := (Ext.refl _ _).push _ (Nat.le_refl _)
    refine WOpD_app (push_pR (z4.ext e5 (Nat.le_refl _)) (by rw [n_push]; omega) (at_push_n h2 _) (by rw [List.length_take]; omega)) ?_
    rintro s6 h6 ⟨o6, e6⟩
    have u6 := o6.one
    have k6 : ∀ k, k < hC.n → h6.at k = h2.at k := fun k hk => (e6.2 k hk).trans (e5.2 k (by omega))
    have w3 := (k6 _ (by omega)).trans z3
    have LX6 := ld_at (T := tabOf Tryz.prog NT0) w3
    have lX6 := at_lt w3
    have n6 := e6.1
    rw [n_push] at n6
    repeat ((with_reducible refine WDM_cons ?_; simp only [dw1]; try simp only [dw2, zrA, zrM, zrR, zrO, zrE]); simp only [core, zrA, zrS, zrM, zrL, zrE, reduceCtorEq, zrD, ziE, ziL, ziN, cored, hn, g4, g5, g10, g11, g12, w3, LX6, lX6, u6])
    try simp only [core, zrA, zrS, zrM, zrL, zrE, reduceCtorEq, zrD, ziE, ziL, ziN, hn, g4, g5, g10, g11, g12, hw]
    refine ih _ _ ⟨?_, by rw [n_put]; omega, (at_put_ne _ (by omega)).trans ((k6 _ (by omega)).trans z2), ⟨s6, at_put_same _ lX6, ?_⟩, ?_⟩
    · exact (E2.trans ⟨by omega, fun k hk => k6 k (by have := EC.1; omega)⟩ : Ext H.n H h6).put _ (by omega)
    · rw [show parts.take (i + 1) = parts.take i ++ [b] by rw [List.take_add_one, hbi]; rfl]
      exact own_lift o6 fun k hk hlt => at_put_ne _ (by omega)
    · simp only [core, zrA, zrS, zrM, zrL, zrE, reduceCtorEq, zrD, ziE, ziL, ziN, hn, g4, g5, g10, g11, g12, hw]
  · rintro t h hc ⟨E, y1, y2, ⟨w, y3, y4⟩, hn, g4, g5, g10, g11, g12⟩
    have hc3 : ((parts.length : Int) < (parts.length : Int)) = False := by simp
    rw [List.take_length] at y4
    have u2 := y4.one
    have LX := ld_at (T := tabOf Tryz.prog NT0) y3
    have lX := at_lt y3
    have l2 := at_lt y2
    simp only [core, zrA, zrS, zrM, zrL, zrE, reduceCtorEq, zrD, ziE, ziL, ziN, hn, g4, g5, g10, g11, g12, hc3, LX, lX, y2, l2, u2]
    have := EC.1
    exact ⟨E.put _ (Nat.le_refl _), w, rfl, (own_lift y4 (h' := h.put H.n _) fun k hk hlt => at_put_ne _ (by omega)).toSl (fun _ hf => hf.elim) fun k hk => by omega⟩
  · refine ⟨EC, Nat.le_refl _, XCA, ⟨_, XC, OwnL.nil⟩, ?_⟩
    simp only [core, zrA, zrS, zrM, zrL, zrE, reduceCtorEq, zrD, ziE, ziL, ziN]
    rfl
end Go.Proofs.YtpfibijbieblnaaGreatDoor.Ex
end

section

set_option linter.unusedSimpArgs false
set_option linter.unusedVariables false
set_option maxRecDepth 10000
set_option maxHeartbeats 8000000
namespace Go.Proofs.YtpfibijbieblnaaGreatDoor.Ex
open Go
def totF (l : List (List UInt8)) : Nat := (l.map List.length).sum
theorem totF_take {l : List (List UInt8)} {i : Nat} {b : List UInt8} (h : l[i]? = some b) : totF (l.take (i + 1)) = totF (l.take i) + b.length := by
  unfold totF
  rw [List.take_add_one, h, List.map_append, List.sum_append]
  simp
theorem totF_le {l : List (List UInt8)} (h : ∀ b ∈ l, b.length ≤ 1000000000) : totF l ≤ l.length * 1000000000 := by
  unfold totF
  induction l with
  | nil => simp
  | cons a r ih =>
    have h1 := h a (by simp)
    have h2 := ih fun b hb => h b (by simp [hb])
    rw [List.map_cons, List.sum_cons, List.length_cons]
    omega
/-- A part's cells, read. -/
theorem part_at {F : Nat → Prop} {H h : AH} {w : AV} {parts : List (List UInt8)} (hw : IsSl RPart F H w parts) (E : Ext H.n H h) {i : Nat} {b : List UInt8} (hb : parts[i]? = some b) (e : TypeId) (n j : Nat) (hn : sizeT (tabOf Tryz.prog NT0) e = some n) (h0 : 0 < n) (hj : j + n ≤ 33) :
    loadA (tabOf Tryz.prog NT0) h e (slB w) (slO w + i * 33 + j) = ldL (tabOf Tryz.prog NT0) e (partC b) j := by
  obtain ⟨c, hc, h1, -⟩ := hw.atE (T := tabOf Tryz.prog NT0) E RPart_z hb
  obtain rfl : c = partC b := hc
  exact h1 e n j hn h0 hj
theorem size_x {H : AH} {w : AV} {s : ByteArray} {F : Nat → Prop} {parts : List (List UInt8)} (hw : IsSl RPart F H w parts) (hl : parts.length ≤ 1000000) (hb : ∀ b ∈ parts, b.length ≤ 1000000000) :
    WC Tryz.prog (tabOf Tryz.prog NT0) S0 7 [.agg [.lit (.string s), w]] H fun r h' => Ext H.n H h' ∧ r = .lit (.int .i64 (totF parts : Nat)) := by
  refine WC_fn Tryz.func7 rfl rfl ?_
  have v1 := hw.isSl
  have v2 := hw.lenD
  have v3 := hw.one
  have htot := totF_le hb
  simp only [core, zrA, zrS, zrM, zrL, zrE, reduceCtorEq, zrD, ziE, ziL, ziN, Tryz.ntmps7, v1, v2, v3]
  refine WB_for parts.length (fun i t h => Ext H.n H h ∧ t.n = 19 ∧ t.get 7 = w ∧ t.get 8 = .lit (.int .i64 parts.length) ∧ t.get 9 = .lit (.int .i64 i) ∧ t.get 3 = .lit (.int .i64 (totF (parts.take i) : Nat))) ?_ ?_ _ _ ?_
  · rintro i t h hlt hc ⟨E, hn, g7, g8, g9, g3⟩ ih
    have hc3 : ((i : Int) < (parts.length : Int)) = True := by simp only [eq_iff_iff, iff_true]; omega
    have hwi := wrap_succ hlt (by omega)
    obtain ⟨b, hbi⟩ : ∃ b, parts[i]? = some b := ⟨_, List.getElem?_eq_getElem hlt⟩
    have hld := part_at hw E hbi 57 33 0 (by kernel_rfl) (by decide) (by decide)
    rw [Nat.add_zero] at hld
    have htk := totF_take hbi
    have hle : totF (parts.take (i + 1)) ≤ 1000000000000000 := by
      have h1 := totF_le (l := parts.take (i + 1)) fun b hb' => hb b (List.mem_of_mem_take hb')
      rw [List.length_take] at h1
      have h2 : min (i + 1) parts.length * 1000000000 ≤ 1000000 * 1000000000 := Nat.mul_le_mul_right _ (by omega)
      exact Nat.le_trans h1 (Nat.le_trans h2 (by decide))
    have hws : IntKind.i64.wrap (((totF (parts.take i) : Nat) : Int) + (b.length : Int)) = ((totF (parts.take (i + 1)) : Nat) : Int) := (wrap_in (by omega) (by omega)).trans (by omega)
    have hld2 : loadA (tabOf Tryz.prog NT0) h 57 (slB w) (slO w + i * 33) = some (.agg (partC b)) := by
      rw [hld]
      show (cut (partC b) 0 33).map AV.agg = _
      unfold cut
      rw [if_pos (by rw [partC_len]; decide), List.drop_zero, List.take_of_length_le (by rw [partC_len]; decide)]
      rfl
    have p1 := partC_len b
    have p2 := part_ones b
    have hG : (partC b)[0]? = some (.lit (.int .i64 (b.length : Int))) := rfl
    simp only [core, zrA, zrS, zrM, zrL, zrE, reduceCtorEq, zrD, ziE, ziL, ziN, hn, g7, g8, g9, g3, hc3, hlt, v1, v2, hld2, p1, p2, hwi, hG, hws]
    refine ih _ _ ⟨E.push _ E.1, ?_⟩
    simp only [core, zrA, zrS, zrM, zrL, zrE, reduceCtorEq, zrD, ziE, ziL, ziN, hn, g7, g8, g9, g3]
  · rintro t h hc ⟨E, hn, g7, g8, g9, g3⟩
    have hc3 : ((parts.length : Int) < (parts.length : Int)) = False := by simp
    rw [List.take_length] at g3
    simp only [core, zrA, zrS, zrM, zrL, zrE, reduceCtorEq, zrD, ziE, ziL, ziN, hn, g7, g8, g9, g3, hc3]
    exact E
  · refine ⟨(Ext.refl _ _).push _ (Nat.le_refl _), ?_⟩
    simp only [core, zrA, zrS, zrM, zrL, zrE, reduceCtorEq, zrD, ziE, ziL, ziN]
    exact ⟨rfl, rfl⟩
theorem sizeR_x {H : AH} {w : AV} {s : ByteArray} {F : Nat → Prop} {parts : List (List UInt8)} (hw : IsSl RPart F H w parts) (hl : parts.length ≤ 1000000) (hb : ∀ b ∈ parts, b.length ≤ 1000000000) :
    WC Tryz.prog (tabOf Tryz.prog NT0) S0 8 [.agg [.lit (.string s), w]] H fun r h' => Ext H.n H h' ∧ r = .lit (.int .i64 (totF parts : Nat)) := by
  refine WC_fn Tryz.func8 rfl rfl ?_
  have v1 := hw.isSl
  have v2 := hw.lenD
  have v3 := hw.one
  have htot := totF_le hb
  simp only [core, zrA, zrS, zrM, zrL, zrE, reduceCtorEq, zrD, ziE, ziL, ziN, Tryz.ntmps8, v1, v2, v3]
  refine WB_for parts.length (fun i t h => Ext H.n H h ∧ t.n = 19 ∧ t.get 7 = w ∧ t.get 8 = .lit (.int .i64 parts.length) ∧ t.get 9 = .lit (.int .i64 i) ∧ t.get 3 = .lit (.int .i64 (totF (parts.take i) : Nat))) ?_ ?_ _ _ ?_
  · rintro i t h hlt hc ⟨E, hn, g7, g8, g9, g3⟩ ih
    have hc3 : ((i : Int) < (parts.length : Int)) = True := by simp only [eq_iff_iff, iff_true]; omega
    have hwi := wrap_succ hlt (by omega)
    obtain ⟨b, hbi⟩ : ∃ b, parts[i]? = some b := ⟨_, List.getElem?_eq_getElem hlt⟩
    have hld := part_at hw E hbi 58 33 0 (by kernel_rfl) (by decide) (by decide)
    rw [Nat.add_zero] at hld
    have htk := totF_take hbi
    have hle : totF (parts.take (i + 1)) ≤ 1000000000000000 := by
      have h1 := totF_le (l := parts.take (i + 1)) fun b hb' => hb b (List.mem_of_mem_take hb')
      rw [List.length_take] at h1
      have h2 : min (i + 1) parts.length * 1000000000 ≤ 1000000 * 1000000000 := Nat.mul_le_mul_right _ (by omega)
      exact Nat.le_trans h1 (Nat.le_trans h2 (by decide))
    have hws : IntKind.i64.wrap (((totF (parts.take i) : Nat) : Int) + (b.length : Int)) = ((totF (parts.take (i + 1)) : Nat) : Int) := (wrap_in (by omega) (by omega)).trans (by omega)
    have hld2 : loadA (tabOf Tryz.prog NT0) h 58 (slB w) (slO w + i * 33) = some (.agg (partC b)) := by
      rw [hld]
      show (cut (partC b) 0 33).map AV.agg = _
      unfold cut
      rw [if_pos (by rw [partC_len]; decide), List.drop_zero, List.take_of_length_le (by rw [partC_len]; decide)]
      rfl
    have p1 := partC_len b
    have p2 := part_ones b
    have hG : (partC b)[0]? = some (.lit (.int .i64 (b.length : Int))) := rfl
    simp only [core, zrA, zrS, zrM, zrL, zrE, reduceCtorEq, zrD, ziE, ziL, ziN, hn, g7, g8, g9, g3, hc3, hlt, v1, v2, hld2, p1, p2, hwi, hG, hws]
    refine ih _ _ ⟨E.push _ E.1, ?_⟩
    simp only [core, zrA, zrS, zrM, zrL, zrE, reduceCtorEq, zrD, ziE, ziL, ziN, hn, g7, g8, g9, g3]
  · rintro t h hc ⟨E, hn, g7, g8, g9, g3⟩
    have hc3 : ((parts.length : Int) < (parts.length : Int)) = False := by simp
    rw [List.take_length] at g3
    simp only [core, zrA, zrS, zrM, zrL, zrE, reduceCtorEq, zrD, ziE, ziL, ziN, hn, g7, g8, g9, g3, hc3]
    exact E
  · refine ⟨(Ext.refl _ _).push _ (Nat.le_refl _), ?_⟩
    simp only [core, zrA, zrS, zrM, zrL, zrE, reduceCtorEq, zrD, ziE, ziL, ziN]
    exact ⟨rfl, rfl⟩
/-- Does something fit the k-th part? -/
def fitF (parts : List (List UInt8)) (k : Int) (b : List UInt8) : Bool := bif decide (0 ≤ k) && decide (k < (parts.length : Int)) then (((parts.getD k.toNat []).length : Int) == (b.length : Int)) && (shaF (parts.getD k.toNat []) == shaF b) else false
theorem fitF_same {parts : List (List UInt8)} {i : Nat} (h : i < parts.length) : fitF parts (i : Int) (parts.getD i []) = true := by
  unfold fitF
  rw [decide_eq_true (by omega), decide_eq_true (by omega), Int.toNat_natCast]
  simp
theorem u8L_same : ∀ l : List Int, ((u8L l).zip (u8L l)).all (fun x => AV.same 7 x.fst x.snd) = true
  | [] => rfl
  | x :: r => by
    show (AV.same 7 (.lit (.int .u8 x)) (.lit (.int .u8 x)) && ((u8L r).zip (u8L r)).all (fun x => AV.same 7 x.fst x.snd)) = true
    rw [u8L_same r]
    simp [AV.same, scalEq]
theorem same_G (a : Int) (X : List Int) : ((partG a X).zip (partG a X)).all (fun x => AV.same 7 x.fst x.snd) = true := by
  show (AV.same 7 (.lit (.int .i64 a)) (.lit (.int .i64 a)) && ((u8L X).zip (u8L X)).all (fun x => AV.same 7 x.fst x.snd)) = true
  rw [u8L_same]
  simp [AV.same, scalEq]
theorem fits_x {H : AH} {w v : AV} {s : ByteArray} {F G : Nat → Prop} {parts : List (List UInt8)} {b : List UInt8} {k : Int} (hw : IsSl RPart F H w parts) (hv : IsSl RByte G H v b) (hb : b.length ≤ 1000000000) :
    WC Tryz.prog (tabOf Tryz.prog NT0) S0 9 [.agg [.lit (.string s), w], .lit (.int .i64 k), v] H fun r h' => Ext H.n H h' ∧ r = .lit (.bool (fitF parts k b)) := by
  refine WC_fn Tryz.func9 rfl rfl ?_
  have v1 := hw.isSl
  have v2 := hw.lenD
  have v3 := hw.one
  have x1 := hv.isSl
  have x2 := hv.lenD
  have x3 := hv.one
  obtain ⟨hA, hhA⟩ : ∃ hA, hA = H.push (.cells [.lit (.string s), w] 27) := ⟨_, rfl⟩
  have eA : Ext H.n H hA := hhA ▸ (Ext.refl _ _).push _ (Nat.le_refl _)
  have XA : hA.at H.n = some (.cells [.lit (.string s), w] 27) := hhA ▸ at_push_n _ _
  have LA := ld_at (T := tabOf Tryz.prog NT0) XA
  have lA := at_lt XA
  by_cases h0 : k < 0
  · have c1 : decide (k < 0) = true := decide_eq_true h0
    have hf : fitF parts k b = false := by unfold fitF; rw [decide_eq_false (p := 0 ≤ k) (by omega)]; rfl
    rw [hf]
    simp only [core, zrA, zrS, zrM, zrL, zrE, reduceCtorEq, zrD, ziE, ziL, ziN, Tryz.ntmps9, ← hhA, v1, v2, v3, LA, lA, c1, aundef]
    exact eA
  · have c1 : decide (k < 0) = false := decide_eq_false h0
    by_cases h1 : k < (parts.length : Int)
    · have c2 : decide ((parts.length : Int) ≤ k) = false := decide_eq_false (by omega)
      obtain ⟨i, rfl⟩ : ∃ i : Nat, k = i := ⟨k.toNat, by omega⟩
      have hlt : i < parts.length := by omega
      have hf : fitF parts (i : Int) b = ((((parts.getD i []).length : Int) == (b.length : Int)) && (shaF (parts.getD i []) == shaF b)) := by
        unfold fitF
        rw [decide_eq_true (by omega), decide_eq_true (by omega), Int.toNat_natCast]
        rfl
      rw [hf]
      obtain ⟨q, hq⟩ : ∃ q, parts[i]? = some q := ⟨_, List.getElem?_eq_getElem hlt⟩
      rw [List.getD_eq_getElem?_getD, hq, Option.getD_some]
      have ld : ∀ h, Ext H.n H h → loadA (tabOf Tryz.prog NT0) h 57 (slB w) (slO w + i * 33) = some (.agg (partC q)) := fun h E => by
        have := part_at hw E hq 57 33 0 (by kernel_rfl) (by decide) (by decide)
        rw [Nat.add_zero] at this
        rw [this]
        show (cut (partC q) 0 33).map AV.agg = _
        unfold cut
        rw [if_pos (by rw [partC_len]; decide), List.drop_zero, List.take_of_length_le (by rw [partC_len]; decide)]
        rfl
      obtain ⟨X, hX⟩ : ∃ X, shaF q = X := ⟨_, rfl⟩
      obtain ⟨Y, hY⟩ : ∃ Y, shaF b = Y := ⟨_, rfl⟩
      have lX : X.length = 32 := by rw [← hX]; exact shaF_len q
      have lY : Y.length = 32 := by rw [← hY]; exact shaF_len b
      have hsha := fun (H : AH) (p : Nat) (hE : Eng H p) (hv : IsSl RByte (fun k => k ≠ p) H v b) => sha_x hE hv (fun k hk => hk) hb
      rw [hY] at hsha
      rw [partC_G q hX] at ld
      rw [hX, hY]
      clear hX hY
      have lda := ld hA eA
      simp only [core, zrA, zrS, zrM, zrL, zrE, reduceCtorEq, zrD, ziE, ziL, ziN, Tryz.ntmps9, ← hhA, v1, v2, v3, LA, lA, c1, c2]
      rw [WB_regionD [0, 1, 2, 3, 4, 5, 6, 8, 7, 9, 10, 11, 12] 374075901467392896606622457336952190444217424683008 (by kernel_rfl)]
      repeat ((with_reducible refine WDM_cons ?_; simp only [dw1]; try simp only [dw2, zrA, zrM, zrR, zrO, zrE]); simp only [core, zrA, zrS, zrM, zrL, zrE, reduceCtorEq, zrD, ziE, ziL, ziN, cored, v1, v2, v3, LA, lA, XA, hlt, lda, x1, x2, x3, same_G])
      refine newE_x.mono ?_
      rintro _ hB ⟨pe, rfl, eB, hpe, hE⟩
      have nB := eB.1
      have nA := eA.1
      have XB := (eB.2 _ (at_lt XA)).trans XA
      have LB := ld_at (T := tabOf Tryz.prog NT0) XB
      have lB := at_lt XB
      have eHB : Ext H.n H hB := eA.trans (eB.mono nA)
      have ldb := ld hB eHB
      repeat ((with_reducible refine WDM_cons ?_; simp only [dw1]; try simp only [dw2, zrA, zrM, zrR, zrO, zrE]); simp only [core, zrA, zrS, zrM, zrL, zrE, reduceCtorEq, zrD, ziE, ziL, ziN, cored, v1, v2, v3, LB, lB, XB, hlt, ldb, x1, x2, x3, same_G])
      refine (hsha _ _ hE (hv.lift fun k _ hlt => ⟨eHB.2 k hlt, by omega⟩)).mono ?_
      rintro _ hC ⟨rfl, nC, kC, hEC⟩
      have eHC : Ext H.n H hC := ⟨by omega, fun k hk => (kC k (by omega) (by omega)).trans (eHB.2 k hk)⟩
      have XC := (kC _ lB (by omega)).trans XB
      have LC := ld_at (T := tabOf Tryz.prog NT0) XC
      have lC := at_lt XC
      have ldc := ld hC eHC
      have b1 : (u8L Y).length = 32 := by rw [u8L_len, lY]
      have hpc : AV.lit (.int .i64 (b.length : Int)) :: u8L Y = partG b.length Y := rfl
      have hE1 := fun (d : Option Tmp) (ty : TypeId) (ps : String) (af : Array Edge) (g : Option (Nat × Bool)) (f : TypeId) (t : TM) (h : AH) (i j : Nat) => a_eqPartA (d := d) (ty := ty) (ps := ps) (af := af) (g := g) (f := f) (t := t) (h := h) (i := i) (j := j) (a := (q.length : Int)) (b := (b.length : Int)) lX lY
      repeat ((with_reducible refine WDM_cons ?_; simp only [dw1]; try simp only [dw2, zrA, zrM, zrR, zrO, zrE]); simp only [core, zrA, zrS, zrM, zrL, zrE, reduceCtorEq, zrD, ziE, ziL, ziN, cored, v1, v2, v3, LC, lC, XC, hlt, ldc, x1, x2, x3, b1, hpc, same_G, hE1])
      exact eHC
    · have c2 : decide ((parts.length : Int) ≤ k) = true := decide_eq_true (by omega)
      have hf : fitF parts k b = false := by unfold fitF; rw [decide_eq_false (p := k < _) h1, Bool.and_false]; rfl
      rw [hf]
      simp only [core, zrA, zrS, zrM, zrL, zrE, reduceCtorEq, zrD, ziE, ziL, ziN, Tryz.ntmps9, ← hhA, v1, v2, v3, LA, lA, c1, c2]
      exact eA
theorem fitsR_x {H : AH} {w v : AV} {s : ByteArray} {F G : Nat → Prop} {parts : List (List UInt8)} {b : List UInt8} {k : Int} (hw : IsSl RPart F H w parts) (hv : IsSl RByte G H v b) (hb : b.length ≤ 1000000000) :
    WC Tryz.prog (tabOf Tryz.prog NT0) S0 10 [.agg [.lit (.string s), w], .lit (.int .i64 k), v] H fun r h' => Ext H.n H h' ∧ r = .lit (.bool (fitF parts k b)) := by
  refine WC_fn Tryz.func10 rfl rfl ?_
  have v1 := hw.isSl
  have v2 := hw.lenD
  have v3 := hw.one
  have x1 := hv.isSl
  have x2 := hv.lenD
  have x3 := hv.one
  obtain ⟨hA, hhA⟩ : ∃ hA, hA = H.push (.cells [.lit (.string s), w] 31) := ⟨_, rfl⟩
  have eA : Ext H.n H hA := hhA ▸ (Ext.refl _ _).push _ (Nat.le_refl _)
  have XA : hA.at H.n = some (.cells [.lit (.string s), w] 31) := hhA ▸ at_push_n _ _
  have LA := ld_at (T := tabOf Tryz.prog NT0) XA
  have lA := at_lt XA
  simp only [core, zrA, zrS, zrM, zrL, zrE, reduceCtorEq, zrD, ziE, ziL, ziN, Tryz.ntmps10, ← hhA, v1, v2, v3, LA, lA]
  rw [WB_regionD [0, 1, 2, 3, 4, 5, 6, 7, 8, 9, 10, 11, 12, 13, 14, 15, 16, 17, 18, 19, 20, 21, 22, 23, 24, 25, 26, 27, 28, 29, 30, 31] 89884656711723941651777934358868354047614940738480273846717148354585214362467372214770861018778278022836981732679623069473534216413914976711764383853160364953147531640073367295613722260851881424579116658774732144539053518735635968550022848299638066601016294422284232377190822593945449960494733241881009848320 (by kernel_rfl)]
  by_cases h0 : k < 0
  · have c1 : decide (0 ≤ k) = false := decide_eq_false (by omega)
    have hf : fitF parts k b = false := by unfold fitF; rw [c1]; rfl
    rw [hf]
    repeat ((with_reducible refine WDM_cons ?_; simp only [dw1]; try simp only [dw2, zrA, zrM, zrR, zrO, zrE]); simp only [core, zrA, zrS, zrM, zrL, zrE, reduceCtorEq, zrD, ziE, ziL, ziN, cored, v1, v2, v3, LA, lA, XA, c1, aundef])
    exact eA
  · have c1 : decide (0 ≤ k) = true := decide_eq_true (by omega)
    by_cases h1 : k < (parts.length : Int)
    · have c2 : decide (k < (parts.length : Int)) = true := decide_eq_true h1
      obtain ⟨i, rfl⟩ : ∃ i : Nat, k = i := ⟨k.toNat, by omega⟩
      have hlt : i < parts.length := by omega
      have hf : fitF parts (i : Int) b = ((((parts.getD i []).length : Int) == (b.length : Int)) && (shaF (parts.getD i []) == shaF b)) := by
        unfold fitF
        rw [c1, c2, Int.toNat_natCast]
        rfl
      rw [hf]
      obtain ⟨q, hq⟩ : ∃ q, parts[i]? = some q := ⟨_, List.getElem?_eq_getElem hlt⟩
      rw [List.getD_eq_getElem?_getD, hq, Option.getD_some]
      obtain ⟨X, hX⟩ : ∃ X, shaF q = X := ⟨_, rfl⟩
      obtain ⟨Y, hY⟩ : ∃ Y, shaF b = Y := ⟨_, rfl⟩
      have lX : X.length = 32 := by rw [← hX]; exact shaF_len q
      have lY : Y.length = 32 := by rw [← hY]; exact shaF_len b
      have hsha := fun (H : AH) (F : Nat → Prop) (hv : IsSl RByte F H v b) => shaR_x hv hb
      rw [hY] at hsha
      have ld0 : ∀ h, Ext H.n H h → loadA (tabOf Tryz.prog NT0) h 3 (slB w) (slO w + i * 33) = some (.lit (.int .i64 (q.length : Int))) := fun h E => by
        have := part_at hw E hq 3 1 0 (by kernel_rfl) (by decide) (by decide)
        rw [Nat.add_zero] at this
        rw [this]
        rfl
      have ld1 : ∀ h, Ext H.n H h → loadA (tabOf Tryz.prog NT0) h 46 (slB w) (slO w + i * 33 + 1) = some (.agg (u8L X)) := fun h E => by
        rw [part_at hw E hq 46 32 1 (by kernel_rfl) (by decide) (by decide), partC_G q hX]
        show (cut (partG _ X) 1 32).map AV.agg = _
        unfold cut
        rw [if_pos (by show 1 + 32 ≤ (u8L X).length + 1; rw [u8L_len, lX]; decide)]
        show some (AV.agg ((u8L X).take 32)) = _
        rw [List.take_of_length_le (by rw [u8L_len, lX]; decide)]
      rw [hX, hY]
      clear hX hY
      have lda0 := ld0 hA eA
      have lda1 := ld1 hA eA
      cases hs : ((q.length : Int) == (b.length : Int)) with
      | false =>
        repeat ((with_reducible refine WDM_cons ?_; simp only [dw1]; try simp only [dw2, zrA, zrM, zrR, zrO, zrE]); simp only [core, zrA, zrS, zrM, zrL, zrE, reduceCtorEq, zrD, ziE, ziL, ziN, cored, v1, v2, v3, LA, lA, XA, c1, c2, hlt, lda0, lda1, x1, x2, x3, hs, aundef])
        exact eA
      | true =>
        repeat ((with_reducible refine WDM_cons ?_; simp only [dw1]; try simp only [dw2, zrA, zrM, zrR, zrO, zrE]); simp only [core, zrA, zrS, zrM, zrL, zrE, reduceCtorEq, zrD, ziE, ziL, ziN, cored, v1, v2, v3, LA, lA, XA, c1, c2, hlt, lda0, lda1, x1, x2, x3, hs, u8L_same])
        refine (hsha _ _ (hv.ext eA (Nat.le_refl _))).mono ?_
        rintro _ hB ⟨eB, rfl⟩
        have nA := eA.1
        have XB := (eB.2 _ (at_lt XA)).trans XA
        have LB := ld_at (T := tabOf Tryz.prog NT0) XB
        have lB := at_lt XB
        have eHB : Ext H.n H hB := eA.trans (eB.mono nA)
        have ldb0 := ld0 hB eHB
        have ldb1 := ld1 hB eHB
        have hE1 := fun (d : Option Tmp) (ty : TypeId) (ps : String) (af : Array Edge) (g : Option (Nat × Bool)) (f : TypeId) (t : TM) (h : AH) (i j : Nat) => a_eqShaA (d := d) (ty := ty) (ps := ps) (af := af) (g := g) (f := f) (t := t) (h := h) (i := i) (j := j) lX lY
        repeat ((with_reducible refine WDM_cons ?_; simp only [dw1]; try simp only [dw2, zrA, zrM, zrR, zrO, zrE]); simp only [core, zrA, zrS, zrM, zrL, zrE, reduceCtorEq, zrD, ziE, ziL, ziN, cored, v1, v2, v3, LB, lB, XB, hlt, ldb0, ldb1, x1, x2, x3, u8L_same, hE1])
        exact eHB
    · have c2 : decide (k < (parts.length : Int)) = false := decide_eq_false h1
      have hf : fitF parts k b = false := by unfold fitF; rw [c2, Bool.and_false]; rfl
      rw [hf]
      repeat ((with_reducible refine WDM_cons ?_; simp only [dw1]; try simp only [dw2, zrA, zrM, zrR, zrO, zrE]); simp only [core, zrA, zrS, zrM, zrL, zrE, reduceCtorEq, zrD, ziE, ziL, ziN, cored, v1, v2, v3, LA, lA, XA, c1, c2, aundef])
      exact eA
end Go.Proofs.YtpfibijbieblnaaGreatDoor.Ex
end

section

set_option linter.unusedSimpArgs false
set_option linter.unusedVariables false
set_option maxRecDepth 10000
set_option maxHeartbeats 8000000
namespace Go.Proofs.YtpfibijbieblnaaGreatDoor.Ex
open Go
theorem livesP_c {H : AH} {Q : AV → AH → Prop} (hq : Q (.lit (.bool true)) H) : WC Tryz.prog (tabOf Tryz.prog NT0) S0 4 [] H Q := WC_sum Tryz.func4 rfl (g := sTrue) rfl rfl hq
theorem pur_sneS {P : Program} {e : TypeId} {a : ByteArray} : pur P (binOp .neq e (Value.string a) (Value.string a)) = some (.ok (Value.bool false)) := by
  have hd : (a.toList == a.toList) = true := by simp
  show pur P (pure (Value.bool !(a.toList == a.toList))) = _
  rw [hd]
  rfl
theorem parts_m {H : AH} {v u : AV} {s : ByteArray} {F G : Nat → Prop} {parts : List (List UInt8)} {b : List UInt8} (hv : IsSl (RSl RByte) F H v parts) (hu : IsSl RByte G H u b) :
    WC Tryz.prog (tabOf Tryz.prog NT0) S0 3 [.lit (.string s), v, u] H fun r h' => r = .lit (.bool true) := by
  refine WC_fn Tryz.func3 rfl rfl ?_
  have v1 := hv.isSl
  have v2 := hv.lenD
  have v3 := hv.one
  have u1 := hu.isSl
  have u2 := hu.lenD
  have u3 := hu.one
  cases c1 : decide ((40 : Int) < (parts.length : Int)) with
  | true =>
    simp only [core, zrA, zrS, zrM, zrL, zrE, reduceCtorEq, zrD, ziE, ziL, ziN, Tryz.ntmps3, v1, v2, u1, u2, c1, aundef]
    refine livesP_c ?_
    simp only [core, zrA, zrS, zrM, zrL, zrE, reduceCtorEq, zrD, ziE, ziL, ziN]
  | false =>
  cases c2 : decide ((5000 : Int) < (b.length : Int)) with
  | true =>
    simp only [core, zrA, zrS, zrM, zrL, zrE, reduceCtorEq, zrD, ziE, ziL, ziN, Tryz.ntmps3, v1, v2, u1, u2, c1, c2, aundef]
    refine livesP_c ?_
    simp only [core, zrA, zrS, zrM, zrL, zrE, reduceCtorEq, zrD, ziE, ziL, ziN]
  | false =>
  have hpl := of_decide_eq_false c1
  have hbl := of_decide_eq_false c2
  simp only [core, zrA, zrS, zrM, zrL, zrE, reduceCtorEq, zrD, ziE, ziL, ziN, Tryz.ntmps3, v1, v2, u1, u2, c1, c2]
  refine WB_for parts.length (fun i t h => h = H ∧ (∀ j, j < i → ∀ q, parts[j]? = some q → q.length ≤ 5000) ∧ t.n = 93 ∧ t.get 0 = .lit (.string s) ∧ t.get 1 = v ∧ t.get 2 = u ∧ t.get 21 = v ∧ t.get 22 = .lit (.int .i64 parts.length) ∧ t.get 23 = .lit (.int .i64 i)) ?_ ?_ _ _ ?_
  · rintro i t h hlt hc ⟨rfl, hall, hn, g0, g1, g2, g21, g22, g23⟩ ih
    have hc3 : ((i : Int) < (parts.length : Int)) = True := by simp only [eq_iff_iff, iff_true]; omega
    have hw := wrap_succ hlt (by omega)
    obtain ⟨q, hq⟩ : ∃ q, parts[i]? = some q := ⟨_, List.getElem?_eq_getElem hlt⟩
    obtain ⟨c, hcc, -, hld⟩ := hv.atE (T := tabOf Tryz.prog NT0) (Ext.refl _ _) (z := 1) rfl hq
    obtain ⟨x, rfl, hx⟩ := RSl_is.1 hcc
    have hld := hld 23 1 (by kernel_rfl) (by decide) (Nat.le_refl _)
    rw [Nat.mul_one] at hld
    have x1 := hx.isSl
    have x2 := hx.lenD
    have x3 := hx.one
    cases c3 : decide ((5000 : Int) < (q.length : Int)) with
    | true =>
      simp only [core, zrA, zrS, zrM, zrL, zrE, reduceCtorEq, zrD, ziE, ziL, ziN, hn, g0, g1, g2, g21, g22, g23, hc3, hlt, v1, v2, hld, x1, x2, x3, c3]
      refine livesP_c ?_
      simp only [core, zrA, zrS, zrM, zrL, zrE, reduceCtorEq, zrD, ziE, ziL, ziN, hn, g0, g1, g2, g21, g22, g23]
    | false =>
      have hql := of_decide_eq_false c3
      simp only [core, zrA, zrS, zrM, zrL, zrE, reduceCtorEq, zrD, ziE, ziL, ziN, hn, g0, g1, g2, g21, g22, g23, hc3, hlt, v1, v2, hld, x1, x2, x3, c3, hw]
      refine ih _ _ ⟨rfl, fun j hj q' hq' => ?_, ?_⟩
      · by_cases hji : j < i
        · exact hall j hji q' hq'
        · obtain rfl : j = i := by omega
          rw [hq] at hq'
          cases hq'
          omega
      · simp only [core, zrA, zrS, zrM, zrL, zrE, reduceCtorEq, zrD, ziE, ziL, ziN, hn, g0, g1, g2, g21, g22, g23]
  · rintro t h hc ⟨rfl, hall, hn, g0, g1, g2, g21, g22, g23⟩
    have hc3 : ((parts.length : Int) < (parts.length : Int)) = False := by simp
    have hB : ∀ q ∈ parts, q.length ≤ 5000 := fun q hq => by
      obtain ⟨j, hj, rfl⟩ := List.getElem_of_mem hq
      exact hall j hj _ (List.getElem?_eq_getElem hj)
    have hB2 : ∀ q ∈ parts, q.length ≤ 1000000000 := fun q hq => by have := hB q hq; omega
    simp only [core, zrA, zrS, zrM, zrL, zrE, reduceCtorEq, zrD, ziE, ziL, ziN, hn, g0, g1, g2, g21, g22, g23, hc3]
    refine (make_x hv (by omega) hB2).mono ?_
    rintro _ h1 ⟨e1, w1, rfl, m1⟩
    simp only [core, zrA, zrS, zrM, zrL, zrE, reduceCtorEq, zrD, ziE, ziL, ziN, hn, g0, g1, g2, g21, g22, g23]
    refine (makeR_x (hv.ext e1 (Nat.le_refl _)) (by omega) hB2).mono ?_
    rintro _ h2 ⟨e2, w2, rfl, m2⟩
    have n1 := e1.1
    have n2 := e2.1
    have E2 : Ext h.n h h2 := e1.trans (e2.mono n1)
    have m1' := m1.ext e2 (Nat.le_refl _)
    have o1 := m1.one
    have o2 := m2.one
    have i1 := m1.isSl
    have i2 := m2.isSl
    have k1 := m1.lenD
    have k2 := m2.lenD
    obtain ⟨h3, hh3⟩ : ∃ h3, h3 = (h2.push (.cells [.lit (.string s), w1] 27)).push (.cells [.lit (.string s), w2] 31) := ⟨_, rfl⟩
    have n3 : h3.n = h2.n + 2 := by rw [hh3, n_push, n_push]
    have E3 : Ext h2.n h2 h3 := hh3 ▸ ((Ext.refl _ _).push _ (Nat.le_refl _)).push _ (by rw [n_push]; omega)
    have X3 : h3.at h2.n = some (.cells [.lit (.string s), w1] 27) := by rw [hh3, at_push_lt _ (by rw [n_push]; omega), at_push_n]
    have Y3 : h3.at (h2.n + 1) = some (.cells [.lit (.string s), w2] 31) := by rw [hh3, ← n_push, at_push_n]
    have LX := ld_at (T := tabOf Tryz.prog NT0) X3
    have lX := at_lt X3
    have LY := ld_at (T := tabOf Tryz.prog NT0) Y3
    have lY := at_lt Y3
    have nn1 : ((parts.length : Int) != (parts.length : Int)) = false := by simp
    have nn2 : (((totF parts : Nat) : Int) != ((totF parts : Nat) : Int)) = false := by simp
    simp only [core, zrA, zrS, zrM, zrL, zrE, reduceCtorEq, zrD, ziE, ziL, ziN, hn, g0, g1, g2, g21, g22, g23, o1, o2, ← hh3]
    rw [WB_regionD [0, 1, 2, 3, 4, 5, 6, 7, 8, 9, 10, 11, 12, 13, 15, 14, 16, 17, 18] 2348535863524654753142025703765196663429221596589867637133446962196845258545637943600176309441881657404030976 (by kernel_rfl)]
    repeat ((with_reducible refine WDM_cons ?_; simp only [dw1]; try simp only [dw2, zrA, zrM, zrR, zrO, zrE]); simp only [core, zrA, zrS, zrM, zrL, zrE, reduceCtorEq, zrD, ziE, ziL, ziN, cored, hn, g0, g1, g2, g21, g22, g23, LX, lX, LY, lY, X3, Y3, pur_sneS, i1, k1, v1, v2, nn1])
    refine ⟨by simp only [same_sl, i2], ?_⟩
    refine (size_x (m1'.ext E3 (Nat.le_refl _)) (by omega) hB2).mono ?_
    rintro _ h4 ⟨e4, rfl⟩
    have n4 := e4.1
    have X4 := (e4.2 _ lX).trans X3
    have Y4 := (e4.2 _ lY).trans Y3
    have LX4 := ld_at (T := tabOf Tryz.prog NT0) X4
    have lX4 := at_lt X4
    have LY4 := ld_at (T := tabOf Tryz.prog NT0) Y4
    have lY4 := at_lt Y4
    have E4 : Ext h2.n h2 h4 := E3.trans (e4.mono (by omega))
    repeat ((with_reducible refine WDM_cons ?_; simp only [dw1]; try simp only [dw2, zrA, zrM, zrR, zrO, zrE]); simp only [core, zrA, zrS, zrM, zrL, zrE, reduceCtorEq, zrD, ziE, ziL, ziN, cored, hn, g0, g1, g2, g21, g22, g23, LX4, lX4, LY4, lY4, X4, Y4, pur_sneS, i1, k1, v1, v2, nn1])
    try refine ⟨by simp only [same_sl, i2], ?_⟩
    refine (sizeR_x (m2.ext E4 (Nat.le_refl _)) (by omega) hB2).mono ?_
    rintro _ h5 ⟨e5, rfl⟩
    have n5 := e5.1
    have X5 := (e5.2 _ lX4).trans X4
    have Y5 := (e5.2 _ lY4).trans Y4
    have LX5 := ld_at (T := tabOf Tryz.prog NT0) X5
    have lX5 := at_lt X5
    have LY5 := ld_at (T := tabOf Tryz.prog NT0) Y5
    have lY5 := at_lt Y5
    have E5 : Ext h2.n h2 h5 := E4.trans (e5.mono (by omega))
    have EH5 : Ext h.n h h5 := E2.trans (E5.mono (by omega))
    repeat ((with_reducible refine WDM_cons ?_; simp only [dw1]; try simp only [dw2, zrA, zrM, zrR, zrO, zrE]); simp only [core, zrA, zrS, zrM, zrL, zrE, reduceCtorEq, zrD, ziE, ziL, ziN, cored, hn, g0, g1, g2, g21, g22, g23, LX5, lX5, LY5, lY5, X5, Y5, pur_sneS, i1, k1, v1, v2, nn1, nn2])
    try simp only [core, zrA, zrS, zrM, zrL, zrE, reduceCtorEq, zrD, ziE, ziL, ziN, hn, g0, g1, g2, g21, g22, g23]
    clear hh3 LX lX LY lY X3 Y3 E3 LX4 lX4 LY4 lY4 X4 Y4 E4
    have lq0 : h2.n < h5.n := lX5
    have lq1 : h2.n + 1 < h5.n := lY5
    refine WB_for (parts.length + 2) (fun i t g => Ext h5.n h5 g ∧ t.n = 93 ∧ t.get 0 = .lit (.string s) ∧ t.get 1 = v ∧ t.get 2 = u ∧ t.get 9 = .ptr h2.n 0 ∧ t.get 10 = .ptr (h2.n + 1) 0 ∧ t.get 11 = .lit (.int .i64 ((i : Int) - 1))) ?_ ?_ _ _ ?_
    · rintro i t g hlt hc ⟨E, hn, g0, g1, g2, g9, g10, g11⟩ ih
      have hc3 : ((i : Int) - 1 ≤ (parts.length : Int)) = True := by simp only [eq_iff_iff, iff_true]; omega
      have hw : IntKind.i64.wrap ((i : Int) - 1 + 1) = ((i + 1 : Nat) : Int) - 1 := (wrap_in (by omega) (by omega)).trans (by omega)
      have nE := E.1
      have X6 := (E.2 _ lX5).trans X5
      have Y6 := (E.2 _ lY5).trans Y5
      have LX6 := ld_at (T := tabOf Tryz.prog NT0) X6
      have lX6 := at_lt X6
      have LY6 := ld_at (T := tabOf Tryz.prog NT0) Y6
      have lY6 := at_lt Y6
      have EH6 : Ext h.n h g := EH5.trans (E.mono (by omega))
      have E26 : Ext h2.n h2 g := E5.trans (E.mono (by omega))
      simp only [core, zrA, zrS, zrM, zrL, zrE, reduceCtorEq, zrD, ziE, ziL, ziN, hn, g0, g1, g2, g9, g10, g11, hc3, v1, v2]
      rw [WB_regionD [0, 1, 2, 4, 5, 6, 3, 7, 8, 9, 10, 11, 12, 13, 14, 15, 16, 17, 18, 19, 20, 21, 22, 23, 24, 25, 26, 27, 28] 7331559382645449686010497525765729369442372399210633405382280442962759796527554036040927296813386385276471791456861525085498483339926828362313744849346254696531626589281983598599276676272891601570575071245696047953210956545328727084736694292157816635392 (by kernel_rfl)]
      repeat ((with_reducible refine WDM_cons ?_; simp only [dw1]; try simp only [dw2, zrA, zrM, zrR, zrO, zrE]); simp only [core, zrA, zrS, zrM, zrL, zrE, reduceCtorEq, zrD, ziE, ziL, ziN, cored, hn, g0, g1, g2, g9, g10, g11, LX6, lX6, LY6, lY6, X6, Y6, v1, v2, u3])
      refine ⟨by simp only [same_sl, i1, i2, Bool.and_self], ?_⟩
      refine (fits_x (m1'.ext E26 (Nat.le_refl _)) (hu.ext EH6 (Nat.le_refl _)) (by omega)).mono ?_
      rintro _ ga ⟨e7, rfl⟩
      have n7 := e7.1
      have X7 := (e7.2 _ lX6).trans X6
      have Y7 := (e7.2 _ lY6).trans Y6
      have LX7 := ld_at (T := tabOf Tryz.prog NT0) X7
      have lX7 := at_lt X7
      have LY7 := ld_at (T := tabOf Tryz.prog NT0) Y7
      have lY7 := at_lt Y7
      have E7 : Ext h5.n h5 ga := E.trans (e7.mono (by omega))
      have EH7 : Ext h.n h ga := EH6.trans (e7.mono (by omega))
      have E27 : Ext h2.n h2 ga := E26.trans (e7.mono (by omega))
      repeat ((with_reducible refine WDM_cons ?_; simp only [dw1]; try simp only [dw2, zrA, zrM, zrR, zrO, zrE]); simp only [core, zrA, zrS, zrM, zrL, zrE, reduceCtorEq, zrD, ziE, ziL, ziN, cored, hn, g0, g1, g2, g9, g10, g11, LX7, lX7, LY7, lY7, X7, Y7, v1, v2, u3])
      try refine ⟨by simp only [same_sl, i1, i2, Bool.and_self], ?_⟩
      refine (fitsR_x (m2.ext E27 (Nat.le_refl _)) (hu.ext EH7 (Nat.le_refl _)) (by omega)).mono ?_
      rintro _ gb ⟨e8, rfl⟩
      have n8 := e8.1
      have X8 := (e8.2 _ lX7).trans X7
      have Y8 := (e8.2 _ lY7).trans Y7
      have LX8 := ld_at (T := tabOf Tryz.prog NT0) X8
      have lX8 := at_lt X8
      have LY8 := ld_at (T := tabOf Tryz.prog NT0) Y8
      have lY8 := at_lt Y8
      have E8 : Ext h5.n h5 gb := E7.trans (e8.mono (by omega))
      have EH8 : Ext h.n h gb := EH7.trans (e8.mono (by omega))
      have E28 : Ext h2.n h2 gb := E27.trans (e8.mono (by omega))
      generalize fitF parts ((i : Int) - 1) b = B at *
      have hbb : (B != B) = false := by simp
      cases i with
      | zero =>
        have d1 : decide ((0 : Int) ≤ ((0 : Nat) : Int) - 1) = false := by decide
        repeat ((with_reducible refine WDM_cons ?_; simp only [dw1]; try simp only [dw2, zrA, zrM, zrR, zrO, zrE]); simp only [core, zrA, zrS, zrM, zrL, zrE, reduceCtorEq, zrD, ziE, ziL, ziN, cored, hn, g0, g1, g2, g9, g10, g11, LX8, lX8, LY8, lY8, X8, Y8, v1, v2, u3, hbb, d1, aundef])
        try simp only [core, zrA, zrS, zrM, zrL, zrE, reduceCtorEq, zrD, ziE, ziL, ziN, hn, g0, g1, g2, g9, g10, g11, hw]
        refine ih _ _ ⟨E8, ?_⟩
        simp only [core, zrA, zrS, zrM, zrL, zrE, reduceCtorEq, zrD, ziE, ziL, ziN, hn, g0, g1, g2, g9, g10, g11, hw]
      | succ k =>
        have hk : (((k + 1 : Nat) : Int) - 1) = (k : Int) := by omega
        rw [hk] at g11 hw
        have d1 : decide ((0 : Int) ≤ (k : Int)) = true := decide_eq_true (by omega)
        by_cases hkl : k < parts.length
        · have d2 : decide ((k : Int) < (parts.length : Int)) = true := decide_eq_true (by omega)
          obtain ⟨q, hq⟩ : ∃ q, parts[k]? = some q := ⟨_, List.getElem?_eq_getElem hkl⟩
          have hqb := hB q (List.mem_of_getElem? hq)
          obtain ⟨c, hcc, -, hld⟩ := hv.atE (T := tabOf Tryz.prog NT0) EH8 (z := 1) rfl hq
          obtain ⟨x, rfl, hx⟩ := RSl_is.1 hcc
          have hld := hld 23 1 (by kernel_rfl) (by decide) (Nat.le_refl _)
          rw [Nat.mul_one] at hld
          have x3 := hx.one
          have hfs : fitF parts (k : Int) q = true := by
            have := fitF_same hkl
            rw [List.getD_eq_getElem?_getD, hq, Option.getD_some] at this
            exact this
          simp only [hk]
          repeat ((with_reducible refine WDM_cons ?_; simp only [dw1]; try simp only [dw2, zrA, zrM, zrR, zrO, zrE]); simp only [core, zrA, zrS, zrM, zrL, zrE, reduceCtorEq, zrD, ziE, ziL, ziN, cored, hn, g0, g1, g2, g9, g10, g11, hk, LX8, lX8, LY8, lY8, X8, Y8, v1, v2, u3, hbb, d1, d2, hkl, hld, x3])
          have x1 := hx.isSl
          try refine ⟨by simp only [same_sl, x1, i1, i2, Bool.and_self, Bool.and_true], ?_⟩
          refine (fits_x (m1'.ext E28 (Nat.le_refl _)) (hx.ext EH8 (Nat.le_refl _)) (by omega)).mono ?_
          rintro _ gc ⟨e9, rfl⟩
          rw [hfs]
          have n9 := e9.1
          have X9 := (e9.2 _ lX8).trans X8
          have LX9 := ld_at (T := tabOf Tryz.prog NT0) X9
          have lX9 := at_lt X9
          repeat (first | ((with_reducible refine WDM_cons ?_; simp only [dw1]; try simp only [dw2, zrA, zrM, zrR, zrO, zrE]); simp only [core, zrA, zrS, zrM, zrL, zrE, reduceCtorEq, zrD, ziE, ziL, ziN, cored, hn, g0, g1, g2, g9, g10, g11, hk, LX9, lX9, X9, v1, v2, u3, hbb, d1, d2, hkl, x3]) | simp only [core, zrA, zrS, zrM, zrL, zrE, reduceCtorEq, zrD, ziE, ziL, ziN, cored, hn, g0, g1, g2, g9, g10, g11, hk, LX9, lX9, X9, v1, v2, u3, hbb, d1, d2, hkl, x3])
          try simp only [core, zrA, zrS, zrM, zrL, zrE, reduceCtorEq, zrD, ziE, ziL, ziN, hn, g0, g1, g2, g9, g10, g11, hw]
          refine ih _ _ ⟨E8.trans (e9.mono (by omega)), ?_⟩
          simp only [core, zrA, zrS, zrM, zrL, zrE, reduceCtorEq, zrD, ziE, ziL, ziN, hn, g0, g1, g2, g9, g10, g11, hw]
        · have d2 : decide ((k : Int) < (parts.length : Int)) = false := decide_eq_false (by omega)
          simp only [hk]
          repeat ((with_reducible refine WDM_cons ?_; simp only [dw1]; try simp only [dw2, zrA, zrM, zrR, zrO, zrE]); simp only [core, zrA, zrS, zrM, zrL, zrE, reduceCtorEq, zrD, ziE, ziL, ziN, cored, hn, g0, g1, g2, g9, g10, g11, hk, LX8, lX8, LY8, lY8, X8, Y8, v1, v2, u3, hbb, d1, d2, aundef])
          try simp only [core, zrA, zrS, zrM, zrL, zrE, reduceCtorEq, zrD, ziE, ziL, ziN, hn, g0, g1, g2, g9, g10, g11, hw]
          refine ih _ _ ⟨E8, ?_⟩
          simp only [core, zrA, zrS, zrM, zrL, zrE, reduceCtorEq, zrD, ziE, ziL, ziN, hn, g0, g1, g2, g9, g10, g11, hw]
    · rintro t g hc ⟨E, hn, g0, g1, g2, g9, g10, g11⟩
      have hc3 : (((parts.length + 2 : Nat) : Int) - 1 ≤ (parts.length : Int)) = False := by simp only [eq_iff_iff, iff_false]; omega
      simp only [core, zrA, zrS, zrM, zrL, zrE, reduceCtorEq, zrD, ziE, ziL, ziN, hn, g0, g1, g2, g9, g10, g11, hc3, v1, v2]
      refine livesP_c ?_
      simp only [core, zrA, zrS, zrM, zrL, zrE, reduceCtorEq, zrD, ziE, ziL, ziN, hn, g0, g1, g2, g9, g10, g11]
    · refine ⟨Ext.refl _ _, ?_⟩
      simp only [core, zrA, zrS, zrM, zrL, zrE, reduceCtorEq, zrD, ziE, ziL, ziN, hn, g0, g1, g2, g21, g22, g23]
      rfl
  · refine ⟨rfl, fun j hj => by omega, ?_⟩
    simp only [core, zrA, zrS, zrM, zrL, zrE, reduceCtorEq, zrD, ziE, ziL, ziN]
    rfl
end Go.Proofs.YtpfibijbieblnaaGreatDoor.Ex
end

section

set_option linter.unusedSimpArgs false
set_option linter.unusedVariables false
namespace Go.Proofs.YtpfibijbieblnaaGreatDoor.Ex
open Go
/-- A row of cells. -/
def rowO (w : World) (r : Nat) : Option (List Value × TypeId) := match w.heap[r]? with
  | some (.cells cur e _) => some (cur.toList, e)
  | _ => none
theorem rowO_inv {w : World} {r : Nat} {l : List Value} {e : TypeId} (h : rowO w r = some (l, e)) : ∃ cur fz, w.heap[r]? = some (.cells cur e fz) ∧ l = cur.toList := by
  unfold rowO at h
  split at h
  · rename_i cur e' fz hh
    simp only [Option.some.injEq, Prod.mk.injEq] at h
    obtain ⟨rfl, rfl⟩ := h
    exact ⟨cur, fz, hh, rfl⟩
  · cases h
def winsAt (w : World) (r : Nat) : List (Nat × Nat) := match rowO w r with
  | some (l, _) => (List.range (l.length + 1)).map fun off => (r, off)
  | none => []
/-- All windows: a row from a place on (ahead of all: the row of the library's table). -/
def wins (w : World) : List (Nat × Nat) := winsAt w 3 ++ (List.range w.heap.size).flatMap (winsAt w)
theorem mem_winsAt {w : World} {r off r' : Nat} (h : (r, off) ∈ winsAt w r') : ∃ l e, rowO w r = some (l, e) ∧ off ≤ l.length := by
  unfold winsAt at h
  split at h
  · rename_i l e hl
    obtain ⟨off', h1, h2⟩ := List.mem_map.1 h
    simp only [Prod.mk.injEq] at h2
    obtain ⟨rfl, rfl⟩ := h2
    rw [List.mem_range] at h1
    exact ⟨l, e, hl, by omega⟩
  · cases h
theorem mem_wins {w : World} {r off : Nat} : (r, off) ∈ wins w ↔ ∃ l e, rowO w r = some (l, e) ∧ off ≤ l.length := by
  unfold wins
  rw [List.mem_append, List.mem_flatMap]
  constructor
  · rintro (h | ⟨r', _, h⟩) <;> exact mem_winsAt h
  · rintro ⟨l, e, hl, ho⟩
    refine .inr ⟨r, ?_, ?_⟩
    · obtain ⟨cur, fz, hh, _⟩ := rowO_inv hl
      rw [List.mem_range]
      exact (Array.getElem?_eq_some_iff.1 hh).1
    · unfold winsAt
      rw [hl]
      exact List.mem_map.2 ⟨off, by rw [List.mem_range]; omega, rfl⟩
/-- A window's number. -/
def widx (w : World) (p : Nat × Nat) : Nat := (wins w).idxOf p + 1
def mu0 (w : World) : Mu := fun b => match b with
  | 0 => none
  | k + 1 => (wins w)[k]?
theorem mu0_widx {w : World} {p : Nat × Nat} (h : p ∈ wins w) : mu0 w (widx w p) = some p := by
  show (wins w)[(wins w).idxOf p]? = some p
  have hlt := List.idxOf_lt_length_of_mem h
  rw [List.getElem?_eq_getElem hlt, List.getElem_idxOf hlt]
instance (w : World) (p : Nat × Nat) : Decidable (p ∈ wins w) := inferInstance
def absV (w : World) : Value → AV
  | .pointer (some ⟨r, o, none⟩) => if (r, o) ∈ wins w then .ptr (widx w (r, o)) 0 else .any
  | .slice (some a) len cap => if len = 0 ∧ cap = 0 then .sl 0 0 0 (.kn 0) else match a with
    | ⟨r, o, none⟩ => if (r, o) ∈ wins w ∧ len ≤ cap ∧ cap ≤ maxLen then .sl (widx w (r, o)) 0 len (.kn cap) else .any
    | _ => .any
  | v => bif scal v then .lit v else .any
theorem absV_rel {ρ : Nat → Value} {w : World} {v : Value} (hv : v.oneCell' = true) : rel ρ (mu0 w) w (absV w v) v := by
  unfold absV
  split
  · rename_i r o
    split
    · rename_i hm
      unfold rel
      exact ⟨r, o, mu0_widx hm, rfl⟩
    · unfold rel; exact hv
  · rename_i a len cap
    split
    · rename_i h0
      obtain ⟨rfl, rfl⟩ := h0
      unfold rel
      exact .inr ⟨rfl, rfl, a, rfl⟩
    · split
      · rename_i r o
        split
        · rename_i hm
          unfold rel
          exact .inl ⟨r, o, o, cap, mu0_widx hm.1, rfl, .inr rfl, rfl, hm.2.1, hm.2.2⟩
        · unfold rel; exact hv
      · unfold rel; exact hv
  · cases hs : scal v with
    | false => simp only [cond_false]; unfold rel; exact hv
    | true => simp only [cond_true]; exact rel_lit hs
/-- A window's cells, as far as they are cells. -/
def absB (w : World) (p : Nat × Nat) : AB := match rowO w p.1 with
  | some (l, e) => .frz (((l.drop p.2).takeWhile (·.oneCell')).map (absV w)) e
  | none => .gone
def AH.ofList (l : List AB) : AH := l.foldl AH.push .nil
theorem L_foldl : ∀ (l : List AB) (h : AH), (l.foldl AH.push h).L = h.L ++ l
  | [], h => by simp
  | x :: r, h => by rw [List.foldl_cons, L_foldl r, L_push, List.append_assoc]; rfl
theorem L_ofList (l : List AB) : (AH.ofList l).L = l := by
  unfold AH.ofList
  rw [L_foldl]
  rfl
/-- The abstract heap of a world; block 0 is an empty row. -/
def absH (w : World) : AH := AH.ofList (.frz [] 0 :: (wins w).map (absB w))
theorem absH_L (w : World) : (absH w).L = .frz [] 0 :: (wins w).map (absB w) := L_ofList _
theorem absH_0 (w : World) : (absH w).at 0 = some (.frz [] 0) := by rw [← L_at, absH_L]; rfl
theorem absH_at {w : World} {p : Nat × Nat} (h : p ∈ wins w) : (absH w).at (widx w p) = some (absB w p) := by
  rw [← L_at, absH_L]
  have : (wins w)[(wins w).idxOf p]? = some p := mu0_widx h
  show ((wins w).map (absB w))[(wins w).idxOf p]? = _
  rw [List.getElem?_map, this]
  rfl
theorem absH_wr {w : World} {b : Nat} {ab : AB} (h : (absH w).L[b]? = some ab) : wr ab = false := by
  rw [absH_L] at h
  cases b with
  | zero => simp at h; subst h; rfl
  | succ k =>
    rw [List.getElem?_cons_succ, List.getElem?_map] at h
    obtain ⟨p, _, rfl⟩ := Option.map_eq_some_iff.1 h
    unfold absB
    split <;> rfl
theorem absH_nw (w : World) (b : Nat) (ab : AB) (h : (absH w).at b = some ab) : wr ab = false := absH_wr (by rw [L_at]; exact h)
theorem takeWhile_get {α : Type} {p : α → Bool} : ∀ {l : List α} {i : Nat} {x : α}, (l.takeWhile p)[i]? = some x → l[i]? = some x ∧ p x = true
  | [], i, x, h => by simp at h
  | a :: r, i, x, h => by
    rw [List.takeWhile_cons] at h
    cases ha : p a with
    | false => rw [ha] at h; simp at h
    | true =>
      rw [ha] at h
      cases i with
      | zero => simp at h; subst h; exact ⟨rfl, ha⟩
      | succ i => simp only [if_true, List.getElem?_cons_succ] at h ⊢; exact takeWhile_get h
theorem takeWhile_take {α : Type} {p : α → Bool} : ∀ {l : List α} {n : Nat}, (∀ x ∈ l.take n, p x = true) → (l.takeWhile p).take n = l.take n
  | [], n, _ => by simp
  | a :: r, 0, _ => by simp
  | a :: r, n + 1, h => by
    rw [List.takeWhile_cons, if_pos (h a (by simp)), List.take_succ_cons, List.take_succ_cons, takeWhile_take fun x hx => h x (by simp [hx])]
theorem absH_hr {P : Program} {ρ : Nat → Value} (w : World) (hpin : PinOf ρ (mu0 w) w := by intro r h; cases h) : HR P ρ w.heap.size (mu0 w) (absH w) w := by
  refine ⟨Nat.le_refl _, fun b x hb => ?_, fun b r base ab hb hx => ?_, fun b b' r base base' ab ab' h1 h2 h3 h4 h5 h6 => ?_, hpin⟩
  · rw [absH_L]
    cases b with
    | zero => cases hb
    | succ k =>
      have : k < (wins w).length := (List.getElem?_eq_some_iff.1 (show (wins w)[k]? = some x from hb)).1
      simp only [List.length_cons, List.length_map]
      omega
  · cases b with
    | zero => cases hb
    | succ k =>
      have hk : (wins w)[k]? = some (r, base) := hb
      rw [absH_L, List.getElem?_cons_succ, List.getElem?_map, hk] at hx
      simp only [Option.map_some, Option.some.injEq] at hx
      obtain ⟨l, e, hl, ho⟩ := mem_wins.1 (List.mem_of_getElem? hk)
      obtain ⟨cur, fz, hh, rfl⟩ := rowO_inv hl
      unfold absB at hx
      rw [hl] at hx
      simp only at hx
      subst hx
      refine ⟨fun hw => (by cases hw), (Array.getElem?_eq_some_iff.1 hh).1, _, hh, cur, fz, rfl, ?_, fun i x hi => ?_⟩
      · have h1 := (List.takeWhile_prefix (l := cur.toList.drop base) (·.oneCell')).length_le
        rw [List.length_drop] at h1
        have e0 : cur.toList.length = cur.size := Array.length_toList
        rw [e0] at h1 ho
        rw [List.length_map]
        exact Nat.le_trans (Nat.add_le_add_left h1 base) (by omega)
      · rw [List.getElem?_map] at hi
        obtain ⟨v, hv, rfl⟩ := Option.map_eq_some_iff.1 hi
        obtain ⟨h1, h2⟩ := takeWhile_get hv
        rw [List.getElem?_drop, Array.getElem?_toList] at h1
        exact ⟨v, h1, absV_rel h2⟩
  · have := absH_wr h3
    rw [this] at h5
    cases h5
end Go.Proofs.YtpfibijbieblnaaGreatDoor.Ex
end

section

set_option linter.unusedSimpArgs false
set_option linter.unusedVariables false
namespace Go.Proofs.YtpfibijbieblnaaGreatDoor
open Go.RowKit Go.ChangeShapes Go.WideShapes Go.ChangeAt
open Go.ChangeMaps (open_string shut_string)
theorem own : ownKnob Tryz.prog.godebug = none := by kernel_rfl
theorem laidOut : laidOutB Tryz.prog = true := by kernel_rfl
section
variable {H : Type} {enc : TypeId × Value → H} {P : Program} {W W' : World}
theorem below_trodAll (hl : laidOutB P = true) (hb : Below W.heap.size W W') : ∀ {ts : List TypeId} {vs : List Value} {ds : List (DataW H)} {ps : List MemPlace},
    ts.all (fun t => P.readableRec t && decide (t < P.types.size)) = true → DataW.TrodAll enc P W 0 (fun _ => true) true ts vs ds ps → DataW.TrodAll enc P W' 0 (fun b => decide (b < W.heap.size)) true ts vs ds ps
  | [], _, _, _, _, h => by obtain ⟨rfl, rfl, rfl⟩ := trodAll_nil h; exact trodAll_mk0
  | t :: ts, vs, ds, ps, hr, h => by
    obtain ⟨v, vs', d, ds', p, q, rfl, rfl, rfl, h1, h2⟩ := trodAll_cons h
    simp only [List.all_cons, Bool.and_eq_true, decide_eq_true_eq] at hr
    refine trodAll_cons_mk (Below.trod hl hr.1.1 hr.1.2 h1 hb ?_) (below_trodAll hl hb (by simpa using hr.2) h2)
    obtain ⟨m, hm⟩ := h1
    exact DataW.trod_lt m _ _ _ hm
theorem weights_le {ts : List TypeId} {ds : List (DataW H)} (hsz : (DataW.weightsEach P ts ds).all (· ≤ reachBytes) = true) {j : Nat} {t : TypeId} {d : DataW H} (hj : ts[j]? = some t) (hd : ds[j]? = some d) : ∀ n ∈ d.weights P t, n ≤ reachBytes := fun n hn => by
  have := List.all_eq_true.1 hsz n (DataW.weights_mem_each hj hd n hn)
  simpa using this
theorem weightsAll_mem {e : TypeId} : ∀ {l : List (DataW H)} {i : Nat} {d : DataW H}, l[i]? = some d → ∀ n ∈ d.weights P e, n ∈ DataW.weightsAll P e l
  | d0 :: l, 0, d, h, n, hn => by simp at h; subst h; simp [DataW.weightsAll, hn]
  | d0 :: l, i + 1, d, h, n, hn => by
    simp only [List.getElem?_cons_succ] at h
    simp only [DataW.weightsAll, List.mem_append]
    exact .inr (weightsAll_mem h n hn)
end
end Go.Proofs.YtpfibijbieblnaaGreatDoor
end
