/- Part 8 of the proof: Bt, Core, Lay, Exf, Srt, Lay2, Cmp, Hash, Ln. -/
import Derived.IntWalk
import Derived.Shelf.Sort.Plain
import Derived.Shelf.Slices.In.SortNone
import Derived.Test.YtkgbeihcepociaaProg
import Derived.Shelf.Slices.CompactI
import Derived.Test.YtkgbeihcepociaaM7
section

set_option linter.unusedSimpArgs false
set_option linter.unusedVariables false
namespace Go.Proofs.Ytkgbeihcepociaa.Ex
open Go
def S00 : Sums := fun _ => none
section
variable {P : Program} {T : TT} {S : Sums} {t : TM} {h : AH} {d : Option Tmp} {ty : TypeId} {ps : String} {af : Array Edge} {g : Option (Nat × Bool)} {k k' : IntKind} {a b : Int} {e : TypeId}
def xorI (k : IntKind) (a b : Int) : Int := k.wrap ((BitVec.ofInt k.bits a ^^^ BitVec.ofInt k.bits b).toNat : Int)
def andI (k : IntKind) (a b : Int) : Int := k.wrap ((BitVec.ofInt k.bits a &&& BitVec.ofInt k.bits b).toNat : Int)
def orI (k : IntKind) (a b : Int) : Int := k.wrap ((BitVec.ofInt k.bits a ||| BitVec.ofInt k.bits b).toNat : Int)
def shlI (k : IntKind) (a b : Int) : Int := k.wrap (a * 2 ^ min b.toNat k.bits)
def shrI (k : IntKind) (a b : Int) : Int := a.fdiv (2 ^ min b.toNat k.bits)
theorem pb_xor : pur P (binOp .xor e (.int k a) (.int k b)) = some (.ok (.int k (xorI k a b))) := by simp [binOp, Op.intBits, xorI]; rfl
theorem pb_and : pur P (binOp .and e (.int k a) (.int k b)) = some (.ok (.int k (andI k a b))) := by simp [binOp, Op.intBits, andI]; rfl
theorem pb_or : pur P (binOp .or e (.int k a) (.int k b)) = some (.ok (.int k (orI k a b))) := by simp [binOp, Op.intBits, orI]; rfl
theorem pb_shl (hb : 0 ≤ b) : pur P (binOp .shl e (.int k a) (.int k' b)) = some (.ok (.int k (shlI k a b))) := by
  have : ¬ b < 0 := by omega
  simp [binOp, Op.shift, shlI, this]; rfl
theorem pb_shr (hb : 0 ≤ b) : pur P (binOp .shr e (.int k a) (.int k' b)) = some (.ok (.int k (shrI k a b))) := by
  have : ¬ b < 0 := by omega
  simp [binOp, Op.shift, shrI, this]; rfl
theorem pb_quo (hb : ¬ b = 0) : pur P (binOp .quo e (.int k a) (.int k b)) = some (.ok (.int k (k.wrap (a.tdiv b)))) := by simp [binOp, Op.intDiv, hb]; rfl
theorem pb_rem (hb : ¬ b = 0) : pur P (binOp .rem e (.int k a) (.int k b)) = some (.ok (.int k (a.tmod b))) := by simp [binOp, Op.intDiv, hb]; rfl
def aNilR (P : Program) (o : Oper) (t : TM) (h : AH) (x : Operand) : AR := aNilCheck P o t h x
theorem a_nil {i : Nat} : aop P T ⟨d, .nilCheck (.tmp i), ty, ps, af, g⟩ t h = (match t.get i with
    | .ptr b off => some (.val (.ptr b off), h)
    | _ => aNilR P ⟨d, .nilCheck (.tmp i), ty, ps, af, g⟩ t h (.tmp i)) := by
  show aNilCheck _ _ _ _ _ = _
  split
  · rename_i b off hb
    unfold aNilCheck
    rw [ev_tmp, hb]
  · rfl
theorem tri_comm {α : Type} (dd : α) : ∀ (f f' : Nat) (t : Tri α) (k j : Nat) (x y : α), 1 ≤ k → 1 ≤ j → k ≠ j → k < 2 ^ f → j < 2 ^ f' → Tri.put dd f (Tri.put dd f' t j y) k x = Tri.put dd f' (Tri.put dd f t k x) j y
  | 0, _, _, _, _, _, _, h1, _, _, h2, _ => by simp at h2; omega
  | _ + 1, 0, _, _, _, _, _, _, h1, _, _, h2 => by simp at h2; omega
  | f + 1, f' + 1, t, k, j, x, y, hk, hj, hne, h1, h2 => by
    have e1 : k / 2 < 2 ^ f := by rw [Nat.pow_succ] at h1; omega
    have e2 : j / 2 < 2 ^ f' := by rw [Nat.pow_succ] at h2; omega
    have key := fun t => tri_comm dd f f' t (k / 2) (j / 2) x y
    simp only [Tri.put]
    cases hk1 : Nat.ble k 1 <;> cases hj1 : Nat.ble j 1 <;> cases hk2 : Nat.beq (k % 2) 0 <;> cases hj2 : Nat.beq (j % 2) 0 <;> simp only [cond_true, cond_false, Tri.lt, Tri.rt, Tri.top, Tri.n.injEq, true_and, and_true]
    all_goals first
      | (exfalso; have := Nat.ble_eq.mp hk1; have := Nat.ble_eq.mp hj1; omega)
      | skip
    all_goals
      have g1 : ¬ k ≤ 1 := fun h => by rw [Nat.ble_eq.mpr h] at hk1; cases hk1
      have g2 : ¬ j ≤ 1 := fun h => by rw [Nat.ble_eq.mpr h] at hj1; cases hj1
    · have p1 : ¬ k % 2 = 0 := fun h => by rw [h] at hk2; cases hk2
      have p2 : ¬ j % 2 = 0 := fun h => by rw [h] at hj2; cases hj2
      exact key _ (by omega) (by omega) (by omega) e1 e2
    · have p1 := Nat.eq_of_beq_eq_true hk2
      have p2 := Nat.eq_of_beq_eq_true hj2
      exact key _ (by omega) (by omega) (by omega) e1 e2
theorem put_push_eq {b : Nat} {x y : AB} (hb : b = h.n) : (h.push x).put b y = h.push y := by subst hb; exact put_push
theorem put_push_lt {b : Nat} {x y : AB} (hb : b < h.n) : (h.push x).put b y = (h.put b y).push x := by
  unfold AH.put AH.push vPut vPush
  simp only
  rw [show Nat.blt b (h.n + 1) = true from Nat.blt_eq.mpr (by omega), show Nat.blt b h.n = true from Nat.blt_eq.mpr hb]
  simp only [cond_true]
  rw [tri_comm _ _ _ _ _ _ _ _ (by omega) (by omega) (by omega) (log2_lt _ (by omega)) (log2_lt _ (by omega))]
theorem lt_a1 {n : Nat} : n < n + 1 := Nat.lt_succ_self n
theorem lt_a2 {n : Nat} : n < n + 1 + 1 := by omega
theorem lt_a3 {n : Nat} : n < n + 1 + 1 + 1 := by omega
theorem lt_a4 {n : Nat} : n < n + 1 + 1 + 1 + 1 := by omega
theorem lt_a5 {n : Nat} : n < n + 1 + 1 + 1 + 1 + 1 := by omega
theorem lt_a6 {n : Nat} : n < n + 1 + 1 + 1 + 1 + 1 + 1 := by omega
theorem lt_a7 {n : Nat} : n < n + 1 + 1 + 1 + 1 + 1 + 1 + 1 := by omega
theorem res_cell {i : Nat} {r : List ResultVar} : resultsA T h t (.cell i ty :: r) = (match t.get i, resultsA T h t r with
    | .ptr b off, some l => (loadA T h ty b off).map (· :: l)
    | _, _ => none) := rfl
/-- A pointer held against nil. -/
def isPtrT (T : TT) (t : TypeId) : Bool := match und T t with
  | some (.pointer _) => true
  | _ => false
theorem pn_none {o : Oper} {i : Nat} {b off : Nat} {op : BinOp} {f : TypeId} (ho : o.op = .binOp op e (.tmp i) (.const (.pointer none)) f) (hv : t.get i = .ptr b off) : litOp P o t = none := by
  unfold litOp
  rw [ho, if_neg]
  simp [Op.operands, litAll, ev_tmp, hv, toVal]
theorem a_eqnilp {i : Nat} {f : TypeId} (hT : isPtrT T e = true) : aop P T ⟨d, .binOp .eql e (.tmp i) (.const (.pointer none)) f, ty, ps, af, g⟩ t h = (match t.get i with
    | .ptr _ _ => some (.val (.lit (.bool false)), h)
    | _ => aBin P T ⟨d, .binOp .eql e (.tmp i) (.const (.pointer none)) f, ty, ps, af, g⟩ t h .eql e (.tmp i) (.const (.pointer none))) := by
  rw [a_bin]
  split
  · rename_i b off hv
    unfold isPtrT at hT
    split at hT
    case h_2 => cases hT
    rename_i el hu
    unfold aBin
    simp only [ev_tmp, hv, ev_nilp]
    simp only [orLit, pn_none (o := ⟨d, .binOp .eql e (.tmp i) (.const (.pointer none)) f, ty, ps, af, g⟩) rfl hv, aSame, hu, ev_tmp, hv, ev_nilp, sameA]
  · rfl
theorem a_nenilp {i : Nat} {f : TypeId} (hT : isPtrT T e = true) : aop P T ⟨d, .binOp .neq e (.tmp i) (.const (.pointer none)) f, ty, ps, af, g⟩ t h = (match t.get i with
    | .ptr _ _ => some (.val (.lit (.bool true)), h)
    | _ => aBin P T ⟨d, .binOp .neq e (.tmp i) (.const (.pointer none)) f, ty, ps, af, g⟩ t h .neq e (.tmp i) (.const (.pointer none))) := by
  rw [a_bin]
  split
  · rename_i b off hv
    unfold isPtrT at hT
    split at hT
    case h_2 => cases hT
    rename_i el hu
    unfold aBin
    simp only [ev_tmp, hv, ev_nilp]
    simp only [orLit, pn_none (o := ⟨d, .binOp .neq e (.tmp i) (.const (.pointer none)) f, ty, ps, af, g⟩) rfl hv, aSame, hu, ev_tmp, hv, ev_nilp, sameA]
    rfl
  · rfl
/-- An array's element, of values that are known. -/
theorem a_index_lit {i j : Nat} {vx vy vr : Value} {ar : AV} (hx : toVal (t.get i) = some vx) (hy : toVal (t.get j) = some vy)
    (he : pur P (Instr.index e vx vy) = some (.ok vr)) (hr : ofVal vr = some ar) : aop P T ⟨d, .index e (.tmp i) (.tmp j), ty, ps, af, g⟩ t h = some (.val ar, h) := by
  have key : ∀ (f : Value → Sem Next), pur P (Instr.index e vx vy >>= f) = pur P (f vr) := fun f => by
    generalize Instr.index e vx vy = s at he
    induction s with
    | pure x => simp [pur] at he; subst he; rfl
    | halt r => cases r <;> simp [pur] at he
    | program k ih => exact ih P he
    | mark e k ih => exact ih he
    | _ => simp [pur] at he
  have h0 : litOp P ⟨d, .index e (.tmp i) (.tmp j), ty, ps, af, g⟩ t = some (.val ar) := by
    unfold litOp
    rw [if_pos (by simp [notSelect, Op.operands, litAll, ev_tmp, hx, hy])]
    have e1 : litEnv t (.tmp i) = vx := by simp [litEnv, ev_tmp, hx]
    have e2 : litEnv t (.tmp j) = vy := by simp [litEnv, ev_tmp, hy]
    simp only [execOp, e1, e2, key]
    show ofPR (some (.ok (.value vr))) = _
    simp only [ofPR, hr, Option.map_some]
  show aIndex _ _ _ _ _ _ _ _ = _
  unfold aIndex orLit
  rw [h0]
def strAt (s : ByteArray) (n : Int) : Option Nat := if 0 ≤ n then (s[n.toNat]?).map (·.toNat) else none
def isStrT (T : TT) (t : TypeId) : Bool := match und T t with
  | some .string => true
  | _ => false
theorem index_str_run {N : NT} {s : ByteArray} {n : Int} {b : Nat} (hT : isStrT (tabOf P N) e = true) (hb : strAt s n = some b) : pur P (Instr.index e (.string s) (.int k n)) = some (.ok (.int .u8 b)) := by
  have hu : und (tabOf P N) e = some .string := by
    unfold isStrT at hT
    split at hT
    · assumption
    · cases hT
  have hP : P.underlying e = some .string := by
    have := und_tab hu
    cases hq : P.underlying e with
    | none => rw [hq] at this; cases this
    | some x => rw [hq] at this; exact congrArg some this
  have u1 : ∀ {α : Type} (f : TypeDesc → Sem α), pur P (underlying e >>= f) = pur P (f .string) := fun f => by
    show pur P ((match P.underlying e with | some d => pure d | none => stuck "no such type") >>= f) = _
    rw [hP]
    rfl
  unfold Instr.index
  show pur P (underlying e >>= _) = _
  rw [u1]
  unfold strAt at hb
  split at hb
  case isFalse => cases hb
  rename_i h0
  obtain ⟨c, hc, rfl⟩ := Option.map_eq_some_iff.1 hb
  simp only [if_pos h0, hc]
  rfl
/-- A text's byte. -/
def aIdxR (P : Program) (T : TT) (o : Oper) (t : TM) (h : AH) (e : TypeId) (x y : Operand) : AR := aIndex P T o t h e x y
theorem idx_str {N : NT} {x y : Operand} {s : ByteArray} {n : Int} {b : Nat} (hT : isStrT (tabOf P N) e = true) (hx : evalA t x = some (.lit (.string s))) (hy : evalA t y = some (.lit (.int k n))) (hb : strAt s n = some b) : aop P (tabOf P N) ⟨d, .index e x y, ty, ps, af, g⟩ t h = some (.val (.lit (.int .u8 b)), h) := by
  have he := index_str_run (P := P) (k := k) hT hb
  have key : ∀ (f : Value → Sem Next), pur P (Instr.index e (.string s) (.int k n) >>= f) = pur P (f (.int .u8 b)) := fun f => by
    generalize Instr.index e (.string s) (.int k n) = s at he
    induction s with
    | pure x => simp [pur] at he; subst he; rfl
    | halt r => cases r <;> simp [pur] at he
    | program k ih => exact ih P he
    | mark e k ih => exact ih he
    | _ => simp [pur] at he
  have h0 : litOp P ⟨d, .index e x y, ty, ps, af, g⟩ t = some (.val (.lit (.int .u8 b))) := by
    unfold litOp
    rw [if_pos (by simp [notSelect, Op.operands, litAll, hx, hy, toVal])]
    have e1 : litEnv t x = .string s := by simp [litEnv, hx, toVal]
    have e2 : litEnv t y = .int k n := by simp [litEnv, hy, toVal]
    simp only [execOp, e1, e2, key]
    rfl
  show aIndex _ _ _ _ _ _ _ _ = _
  unfold aIndex orLit
  rw [h0]
theorem a_idx_cs {N : NT} {s : ByteArray} {j : Nat} (hT : isStrT (tabOf P N) e = true) : aop P (tabOf P N) ⟨d, .index e (.const (.string s)) (.tmp j), ty, ps, af, g⟩ t h = (match t.get j with
    | .lit (.int _ n) => (match strAt s n with
      | some b => some (.val (.lit (.int .u8 b)), h)
      | none => aIdxR P (tabOf P N) ⟨d, .index e (.const (.string s)) (.tmp j), ty, ps, af, g⟩ t h e (.const (.string s)) (.tmp j))
    | _ => aIdxR P (tabOf P N) ⟨d, .index e (.const (.string s)) (.tmp j), ty, ps, af, g⟩ t h e (.const (.string s)) (.tmp j)) := by
  split
  · rename_i k n hy
    split
    · rename_i b hb
      exact idx_str hT rfl (by rw [ev_tmp, hy]) hb
    · rfl
  · rfl
def aConR (P : Program) (T : TT) (o : Oper) (t : TM) (h : AH) (src dst : TypeId) (x : Operand) : AR := aConvert P T o t h src dst x
/-- A number of another kind. -/
theorem a_conv {src dst i : Nat} : aop P T ⟨d, .convert src dst (.tmp i), ty, ps, af, g⟩ t h = (match t.get i, und T src, und T dst with
    | .lit (.int _ n), some _, some (.int k') => some (.val (.lit (.int k' (k'.wrap n))), h)
    | _, _, _ => aConR P T ⟨d, .convert src dst (.tmp i), ty, ps, af, g⟩ t h src dst (.tmp i)) := by
  show aConvert _ _ _ _ _ _ _ _ = _
  split
  · rename_i k n d' k' h1 h2 h3
    unfold aConvert
    rw [ev_tmp, h1, h2, h3]
  · rfl
theorem a_mkf {f : Fn} {xs ys : Array Operand} : aop P T ⟨d, .makeFunc f xs ys, ty, ps, af, g⟩ t h = aMakeFunc t h f xs ys := rfl
/-- A loop by goto. -/
theorem WB_again {E : FE} {k : List AI} {K : KK} (Inv : Nat → TM → AH → Prop) (n : Nat)
    (step : ∀ n t h, Inv n t h → (∀ m t' h', m < n → Inv m t' h' → WB P T S E t' k h' K) → WB P T S E t k h K) : ∀ t h, Inv n t h → WB P T S E t k h K := by
  induction n using Nat.strongRecOn with
  | _ n ih => exact fun t h hi => step n t h hi fun m t' h' hm hi' => ih m hm t' h' hi'
theorem WB_lab {E : FE} {l : Nat} {k k' : List AI} {K : KK} (hk : gotoA l k = some k') (hs : ∀ t h, WB P T S E t k' h K = WB P T S E t k h K) (Inv : Nat → TM → AH → Prop) (n : Nat)
    (step : ∀ n t h, Inv n t h → (∀ m t' h', m < n → Inv m t' h' → WGoto P T S E t' h' K (gotoA l k)) → WB P T S E t k h K) : ∀ t h, Inv n t h → WB P T S E t (.code (.label l) :: k) h K := by
  intro t h hi
  rw [WB_label]
  rw [hk] at step
  have := WB_again (k := k') Inv n (fun n t h hi ih => by rw [hs]; exact step n t h hi ih) t h hi
  rw [hs] at this
  exact this
theorem WC_sum {f : FuncId} {args : List AV} {fn : Func} {c : Code} {v : AV} {h' : AH} {Q : AV → AH → Prop} {g : List AV → AH → Option (AV × AH)} (hf : P.funcs[f]? = some fn) (hb : fn.body = some c) (hS : S f = some g) (hg : g args h = some (v, h')) (hq : Q v h') : WC P T S f args h Q := by
  refine ⟨1, .ended (.ret v) none, h', ?_, v, none, rfl, hq⟩
  show xCall P S (ex P T S 0) f args none h = _
  unfold xCall
  rw [hf]
  simp only [hb, hS, hg]
  rfl
end
theorem wrap_in {n : Int} (h1 : -9223372036854775808 ≤ n) (h2 : n < 9223372036854775808) : IntKind.i64.wrap n = n := IntWalk.i64_in _ ⟨h1, by omega⟩
theorem wrap_u32 {n : Int} (h1 : 0 ≤ n) (h2 : n < 4294967296) : IntKind.u32.wrap n = n := by
  unfold IntKind.wrap
  simp [IntKind.bits, IntKind.signed]
  omega
theorem wrap_u64 {n : Int} (h1 : 0 ≤ n) (h2 : n < 18446744073709551616) : IntKind.u64.wrap n = n := by
  unfold IntKind.wrap
  simp [IntKind.bits, IntKind.signed]
  omega
theorem wrap_succ {i n : Nat} (h : i < n) (hn : n < 9223372036854775808) : IntKind.i64.wrap ((i : Int) + 1) = ((i + 1 : Nat) : Int) := (wrap_in (by omega) (by omega)).trans (by omega)
end Go.Proofs.Ytkgbeihcepociaa.Ex
end

section

set_option linter.unusedSimpArgs false
set_option linter.defProp false
set_option maxRecDepth 100000
namespace Go.Proofs.Ytkgbeihcepociaa.Ex
open Go
def corem0 := And.intro @plainO.eq_1 (And.intro @plainO.eq_2 (And.intro @plainOp.eq_1 (And.intro @plainOp.eq_2 (And.intro @plainOp.eq_3 (And.intro @natA_int (And.intro @Int.toNat_natCast (And.intro @WB_seq (And.intro @WB_region (And.intro @WB_reg_nil (And.intro @WB_reg_s (And.intro @WRegO_some (And.intro @WRegO_guard (And.intro @WReg_true (And.intro @WReg_false (And.intro @WB_block (And.intro @WB_blk (And.intro @WB_loop (And.intro @WB_skip (And.intro @WB_scope (And.intro @WB_sc (And.intro @WB_ret (And.intro @WB_nil (And.intro @List.size_toArray.{0} (And.intro @List.size_toArray.{1} (And.intro @List.length_cons.{0} (And.intro @List.length_cons.{1} (And.intro @List.length_nil.{0} (And.intro @List.length_nil.{1} (And.intro @Nat.zero_add (And.intro @Nat.add_zero (And.intro @Nat.mul_one (And.intro @rng0 (And.intro @List.range'_succ (And.intro @List.range'_zero (And.intro @List.getElem?_toArray.{0} (And.intro @List.getElem?_toArray.{1} (And.intro @List.getElem?_cons_zero.{0} (And.intro @List.getElem?_cons_zero.{1} (And.intro @List.getElem?_cons_succ.{0} (And.intro @List.getElem?_cons_succ.{1} (And.intro @a_move (And.intro @a_assign (And.intro @a_load (And.intro @aLoad.eq_1 (And.intro @a_store (And.intro @aStore.eq_1 (And.intro @aIndexAddr.eq_1 (And.intro @a_fieldAddr (And.intro @fa_eq (And.intro @faM.eq_1 (And.intro @faM.eq_2 (And.intro @a_field (And.intro @fd_eq (And.intro @fdM.eq_1 (And.intro @fdM.eq_2 (And.intro @fdM.eq_3 (And.intro @a_buildSlice (And.intro @bs_eq (And.intro @bsM.eq_1 (And.intro @bsM.eq_2 (And.intro @bsM.eq_3 (And.intro @rep.eq_1 (And.intro @rep.eq_2 (And.intro @fillA.eq_1 (And.intro @fillA.eq_2 (And.intro @evalParts.eq_1 (And.intro @evalParts.eq_2 (And.intro @List.map_cons.{0,0} (And.intro @List.map_cons.{0,1} (And.intro @List.map_cons.{1,0} (And.intro @List.map_cons.{1,1} (And.intro @List.map_nil.{0,0} (And.intro @List.map_nil.{0,1} (And.intro @List.map_nil.{1,0} (And.intro @List.map_nil.{1,1} (And.intro @a_un (And.intro @a_extract (And.intro @aExtract.eq_1 (And.intro @a_alloc (And.intro @aAlloc.eq_1 (And.intro @a_box (And.intro @aBox.eq_1 (And.intro @pb_lss (And.intro @pb_leq (And.intro @pb_gtr (And.intro @pb_geq (And.intro @pb_eql (And.intro @pb_neq (And.intro @pb_add (And.intro @pb_sub (And.intro @pb_mul (And.intro @ofPV_int (And.intro @ofPV_bool (And.intro @val.eq_1 (And.intro @Option.map_some.{0,0} (And.intro @Option.map_some.{0,1} (And.intro @Option.map_some.{1,0} (And.intro @Option.map_some.{1,1} (And.intro @Option.map_none.{0,0} (And.intro @Option.map_none.{0,1} (And.intro @Option.map_none.{1,0} (And.intro @Option.map_none.{1,1} (And.intro @ev_tmp (And.intro @ev_int (And.intro @ev_bool (And.intro @ev_str (And.intro @ev_nilp (And.intro @ev_nils (And.intro @ev_nilm (And.intro @ev_nilf (And.intro @ev_nili (And.intro @ev_func (And.intro @val_ok (And.intro @WOp_val (And.intro @WOp_enter (And.intro @KC_eq (And.intro @List.append_nil.{0} (And.intro @List.append_nil.{1} (And.intro @List.cons_append.{0} (And.intro @List.cons_append.{1} (And.intro @setTmp_some (And.intro @setTmp_none (And.intro @callA.eq_1 (And.intro @callA.eq_2 (And.intro @callA.eq_3 (And.intro @callA.eq_4 (And.intro @evals.eq_1 (And.intro @evals.eq_2 (And.intro @get_set_ne (And.intro @get_set_same (And.intro @get_ofL' (And.intro @tabA (And.intro @tabS (And.intro @tabB (And.intro @tabZ (And.intro @tabU (And.intro @tabF (And.intro @ne_eq.{0} (And.intro @ne_eq.{1} (And.intro @not_false_eq_true (And.intro @not_true_eq_false (And.intro @n_set (And.intro @n_ofL (And.intro @WIf_some (And.intro @WB_exit (And.intro @exA_blk (And.intro @exA_code (And.intro @exA_lp (And.intro @exA_sc (And.intro @WExit_some (And.intro @List.getD_cons_zero.{0} (And.intro @List.getD_cons_zero.{1} (And.intro @List.getD_cons_succ.{0} (And.intro @List.getD_cons_succ.{1} (And.intro @if_true.{0} (And.intro @if_true.{1} (And.intro @if_false.{0} (And.intro @if_false.{1} (And.intro @Nat.zero_le (And.intro @Nat.zero_mul (And.intro @Bool.true_and (And.intro @Bool.and_true (And.intro @Bool.and_self (And.intro @Bool.false_and (And.intro @Bool.and_false (And.intro @cond_true.{0} (And.intro @cond_true.{1} (And.intro @cond_false.{0} (And.intro @cond_false.{1} (And.intro @Option.bind_some.{0,0} (And.intro @Option.bind_some.{0,1} (And.intro @Option.bind_some.{1,0} (And.intro @Option.bind_some.{1,1} (And.intro @decide_true (And.intro @decide_false (And.intro @true_implies (And.intro @false_implies (And.intro @forall_const.{0} (And.intro @forall_const.{1} (And.intro @and_true (And.intro @true_and (And.intro @or_true (And.intro @false_or (And.intro @res_nil (And.intro @res_tmp (And.intro @ats_same (And.intro @ats_ne (And.intro @one_lit (And.intro @one_ptr (And.intro @one_sl (And.intro @one_mp (And.intro @one_fn (And.intro @one_ifc (And.intro @one_any (And.intro @b_tt (And.intro @b_ft (And.intro @b_tf (And.intro @b_ff (And.intro @cells_lit (And.intro @cells_sl (And.intro @cells_ptr (And.intro @cells_agg (And.intro @cells_one (And.intro @ld_new (And.intro @ld_old (And.intro @ld_put (And.intro @ld_else (And.intro @st_eq (And.intro @stL.eq_1 (And.intro @stL.eq_2 (And.intro @at_new (And.intro @at_old (And.intro @at_put (And.intro @at_else (And.intro @n_put (And.intro @n_push2 (And.intro @cut.eq_1 (And.intro @List.take_succ_cons.{0} (And.intro @List.take_succ_cons.{1} (And.intro @List.drop_succ_cons.{0} (And.intro @List.drop_succ_cons.{1} (And.intro @List.all_cons.{0} (And.intro @List.all_cons.{1} (And.intro @List.all_nil.{0} (And.intro @List.all_nil.{1} (And.intro @Nat.lt_add_one (And.intro @a_pick (And.intro @aPick.eq_1 (And.intro @Bool.cond_false.{0} (And.intro @Bool.cond_false.{1} (And.intro @Bool.cond_true.{0} (And.intro @Bool.cond_true.{1} (And.intro @wantedA.eq_1 (And.intro @Option.bind_none.{0,0} (And.intro @Option.bind_none.{0,1} (And.intro @Option.bind_none.{1,0} (And.intro @Option.bind_none.{1,1} (And.intro @a_callv (And.intro @a_append (And.intro @a_len (And.intro @a_min (And.intro @a_max (And.intro @a_ia (And.intro @a_iap (And.intro @iaM_some (And.intro @isPtr.eq_1 (And.intro @isPtr.eq_2 (And.intro @szE.eq_1 (And.intro @szOk.eq_1 (And.intro @isSlT.eq_1 (And.intro @Option.getD_some.{0} (And.intro @Option.getD_some.{1} (And.intro @Option.isSome_some.{0} (And.intro @Option.isSome_some.{1} (And.intro @a_sl_hi (And.intro @a_sl_lo (And.intro @a_sl_lohi (And.intro @slM.eq_1 (And.intro @a_eqnil (And.intro @a_nenil (And.intro @a_bin2 (And.intro @a_bin_tt (And.intro @a_bin_ti (And.intro @a_bin_ts (And.intro @a_bin_it (And.intro @boolM_eql (And.intro @boolM_neq (And.intro @un_not (And.intro @un_neg (And.intro @tabN (And.intro @Nat.blt_eq (And.intro @nn0 (And.intro @Int.toNat_zero (And.intro @tabR (And.intro @Option.some.injEq.{0} (And.intro @Option.some.injEq.{1} (And.intro @exists_eq_left'.{0} (And.intro @exists_eq_left'.{1} (And.intro @exists_eq_left.{0} (And.intro @exists_eq_left.{1} (And.intro @oneOf_1 (And.intro @oneOf_2 (And.intro @oneOf_3 (And.intro @oneOf_0 (And.intro @put_push (And.intro @beq_true (And.intro @beq_false (And.intro @decide_not (And.intro @bd_eq (And.intro @bdM.eq_1 (And.intro @bdM.eq_2 (And.intro @bda_eq (And.intro @arrOf.eq_1 (And.intro @tabP (And.intro @aUn.eq_1 (And.intro @pb_xor (And.intro @pb_and (And.intro @pb_or (And.intro @pb_shl (And.intro @pb_shr (And.intro @pb_quo (And.intro @pb_rem (And.intro @a_nil (And.intro @a_eqnilp (And.intro @a_nenilp (And.intro @isPtrT.eq_1 (And.intro @put_push_eq (And.intro @put_push_lt (And.intro @lt_a1 (And.intro @lt_a2 (And.intro @lt_a3 (And.intro @lt_a4 (And.intro @lt_a5 (And.intro @lt_a6 (And.intro @lt_a7 (And.intro @res_cell (And.intro @a_conv (And.intro @a_idx_cs (And.intro @isStrT.eq_1 (And.intro @a_mkf (And.intro @aMakeFunc.eq_1 (And.intro @notYield.eq_1 (And.intro @notYield.eq_2 (And.intro @Bool.not_true (@Bool.not_false)))))))))))))))))))))))))))))))))))))))))))))))))))))))))))))))))))))))))))))))))))))))))))))))))))))))))))))))))))))))))))))))))))))))))))))))))))))))))))))))))))))))))))))))))))))))))))))))))))))))))))))))))))))))))))))))))))))))))))))))))))))))))))))))))))))))))))))))))))))))))))))))))))))))))))))))))))))))))))))))))))))
def cored0 := And.intro @kindOf.eq_1 (And.intro @WRegD_t (And.intro @WRegD_f (And.intro @WOpD_av (And.intro @WOpD_ae (And.intro @WOpD_s (And.intro @WOpD_l (And.intro @WOpD_r (And.intro @rdOf.eq_1 (And.intro @WDM_nil (And.intro @hold_nil (And.intro @hold_cons (And.intro @rdA.eq_1 (And.intro @rdA.eq_2 (And.intro @rdA.eq_3 (And.intro @rdA.eq_4 (And.intro @same_sl (And.intro @same_int (And.intro @same_bool (And.intro @same_str (And.intro @same_agg (And.intro @same_one (And.intro @List.zip_cons_cons.{0,0} (And.intro @List.zip_cons_cons.{0,1} (And.intro @List.zip_cons_cons.{1,0} (And.intro @List.zip_cons_cons.{1,1} (And.intro @List.zip_nil_left.{0,0} (And.intro @List.zip_nil_left.{0,1} (And.intro @List.zip_nil_left.{1,0} (And.intro @List.zip_nil_left.{1,1} (And.intro @beq_self_eq_true.{0} (@beq_self_eq_true.{1})))))))))))))))))))))))))))))))
theorem corem : type_of% corem0 := corem0
theorem cored : type_of% cored0 := cored0
def core0 := And.intro corem (And.intro @WB_cond_s (And.intro @put.eq_1 (And.intro @ldL.eq_1 (And.intro @WB_label (And.intro @List.nil_append.{0} (And.intro @List.nil_append.{1} (And.intro @List.drop_zero.{0} (And.intro @List.drop_zero.{1} (And.intro @List.take_zero.{0} (@List.take_zero.{1}))))))))))
theorem core : type_of% core0 := core0
def dw01 := And.intro @List.getElem?_toArray.{0} (And.intro @List.getElem?_cons_zero.{0} (And.intro @List.getElem?_cons_succ.{0} (And.intro @WRegDO.eq_1 (And.intro @WRegDO.eq_2 (@kindOf.eq_1)))))
theorem dw1 : type_of% dw01 := dw01
def dw02 := And.intro @dropR_nil (And.intro @dropR_cons (And.intro @List.size_toArray.{0} (And.intro @List.length_cons.{0} (And.intro @List.length_nil.{0} (And.intro @waits_eq (And.intro @Nat.zero_add (And.intro @Nat.zero_ne_one (And.intro @decide_true (And.intro @decide_false (And.intro @cond_true.{0} (And.intro @cond_true.{1} (And.intro @cond_false.{0} (@cond_false.{1})))))))))))))
theorem dw2 : type_of% dw02 := dw02
end Go.Proofs.Ytkgbeihcepociaa.Ex
end

section

namespace Go.Proofs
open Go.Shelf
def Try.lays189_ren : Go.Shelf.Ren := ⟨fun | 189 => 89 | 125 => 127 | 257 => 126 | 128 => 160 | 129 => 161 | 294 => 151 | 295 => 152 | 296 => 153 | 297 => 154 | 298 => 155 | 299 => 156 | 216 => 157 | 300 => 158 | 301 => 159 | 328 => 175 | 329 => 176 | 330 => 177 | 331 => 178 | 332 => 179 | 215 => 180 | 343 => 187 | n => n, fun | 28 => 63 | 3 => 3 | 46 => 81 | 0 => 0 | 51 => 123 | 53 => 215 | 4 => 4 | 183 => 207 | 182 => 206 | 131 => 87 | 5 => 5 | 9 => 9 | 218 => 230 | 222 => 234 | 228 => 240 | 229 => 241 | n => n, fun | n => n⟩
theorem Try.lays189 : Go.Proofs.Lays.n189 Try.prog Try.lays189_ren := {
  mixed := by kernel_rfl,
  f125 := Try.func127.trans (congrArg some (by kernel_rfl)),
  f128 := Try.func160.trans (congrArg some (by kernel_rfl)),
  f129 := Try.func161.trans (congrArg some (by kernel_rfl)),
  f189 := Try.func89.trans (congrArg some (by kernel_rfl)),
  f215 := Try.func180.trans (congrArg some (by kernel_rfl)),
  f216 := Try.func157.trans (congrArg some (by kernel_rfl)),
  f257 := Try.func126.trans (congrArg some (by kernel_rfl)),
  f294 := Try.func151.trans (congrArg some (by kernel_rfl)),
  f295 := Try.func152.trans (congrArg some (by kernel_rfl)),
  f296 := Try.func153.trans (congrArg some (by kernel_rfl)),
  f297 := Try.func154.trans (congrArg some (by kernel_rfl)),
  f298 := Try.func155.trans (congrArg some (by kernel_rfl)),
  f299 := Try.func156.trans (congrArg some (by kernel_rfl)),
  f300 := Try.func158.trans (congrArg some (by kernel_rfl)),
  f301 := Try.func159.trans (congrArg some (by kernel_rfl)),
  f328 := Try.func175.trans (congrArg some (by kernel_rfl)),
  f329 := Try.func176.trans (congrArg some (by kernel_rfl)),
  f330 := Try.func177.trans (congrArg some (by kernel_rfl)),
  f331 := Try.func178.trans (congrArg some (by kernel_rfl)),
  f332 := Try.func179.trans (congrArg some (by kernel_rfl)),
  f343 := Try.func187.trans (congrArg some (by kernel_rfl)),
  t0 := Try.underlying0,
  a0 := Try.isAgg0,
  z0 := Try.sizeOf0,
  v0 := Try.zeroValue0,
  t3 := Try.underlying3,
  a3 := Try.isAgg3,
  z3 := Try.sizeOf3,
  v3 := Try.zeroValue3,
  t4 := Try.underlying4,
  a4 := Try.isAgg4,
  z4 := Try.sizeOf4,
  v4 := Try.zeroValue4,
  t5 := Try.underlying5,
  a5 := Try.isAgg5,
  z5 := Try.sizeOf5,
  v5 := Try.zeroValue5,
  t9 := Try.underlying9,
  a9 := Try.isAgg9,
  z9 := Try.sizeOf9,
  v9 := Try.zeroValue9,
  t28 := Try.underlying63,
  a28 := Try.isAgg63,
  z28 := Try.sizeOf63,
  v28 := Try.zeroValue63,
  t46 := Try.underlying81,
  a46 := Try.isAgg81,
  z46 := Try.sizeOf81,
  v46 := Try.zeroValue81,
  t51 := Try.underlying123,
  a51 := Try.isAgg123,
  z51 := Try.sizeOf123,
  v51 := Try.zeroValue123,
  t53 := Try.underlying215,
  a53 := Try.isAgg215,
  z53 := Try.sizeOf215,
  v53 := Try.zeroValue215,
  t131 := Try.underlying87,
  a131 := Try.isAgg87,
  z131 := Try.sizeOf87,
  v131 := Try.zeroValue87,
  t182 := Try.underlying206,
  a182 := Try.isAgg206,
  z182 := Try.sizeOf206,
  v182 := Try.zeroValue206,
  t183 := Try.underlying207,
  a183 := Try.isAgg207,
  z183 := Try.sizeOf207,
  v183 := Try.zeroValue207,
  t218 := Try.underlying230,
  a218 := Try.isAgg230,
  z218 := Try.sizeOf230,
  v218 := Try.zeroValue230,
  t222 := Try.underlying234,
  a222 := Try.isAgg234,
  z222 := Try.sizeOf234,
  v222 := Try.zeroValue234,
  t228 := Try.underlying240,
  a228 := Try.isAgg240,
  z228 := Try.sizeOf240,
  v228 := Try.zeroValue240,
  t229 := Try.underlying241,
  a229 := Try.isAgg241,
  z229 := Try.sizeOf241,
  v229 := Try.zeroValue241 }
end Go.Proofs
end

section

set_option linter.unusedSimpArgs false
set_option linter.unusedVariables false
namespace Go.Proofs.Ytkgbeihcepociaa.Ex
open Go Go.RowKit
variable {P : Program} {ρ : Nat → Value} {fl : Nat}
mutual
theorem rel.back {μ μ1 : Mu} {w w1 : World} (hm : More μ μ1) : ∀ (a : AV) (v0 v : Value), rel ρ μ w a v0 → rel ρ μ1 w1 a v → rel ρ μ w1 a v
  | .lit _, _, _, _, h => by unfold rel at h ⊢; exact h
  | .ptr b off, _, _, h0, h => by
    unfold rel at h0 h ⊢
    obtain ⟨r, base, e0, _⟩ := h0
    obtain ⟨r', base', e1, e2⟩ := h
    rw [hm _ _ e0] at e1
    cases e1
    exact ⟨r, base, e0, e2⟩
  | .sl b off len cap, _, _, h0, h => by
    unfold rel at h0 h ⊢
    rcases h with ⟨r', base', o', c', e1, e2, e3, e4⟩ | h
    · rcases h0 with ⟨r, base, o, c, e0, _⟩ | ⟨rfl, rfl, _⟩
      · rw [hm _ _ e0] at e1
        cases e1
        exact .inl ⟨_, _, o', c', e0, e2, e3, e4⟩
      · obtain ⟨rfl, _, _⟩ := e4
        exact .inr ⟨rfl, rfl, _, e2⟩
    · exact .inr h
  | .mp b, _, _, h0, h => by
    unfold rel at h0 h ⊢
    obtain ⟨r, e0, _⟩ := h0
    obtain ⟨r', e1, e2⟩ := h
    rw [hm _ _ e0] at e1
    cases e1
    exact ⟨r, e0, e2⟩
  | .agg l, _, _, h0, h => by
    unfold rel at h0 h ⊢
    obtain ⟨l0, _, h0⟩ := h0
    obtain ⟨l', e, h⟩ := h
    exact ⟨l', e, rels.back hm l l0 l' h0 h⟩
  | .tup l, _, _, h0, h => by
    unfold rel at h0 h ⊢
    obtain ⟨l0, _, h0⟩ := h0
    obtain ⟨l', e, h⟩ := h
    exact ⟨l', e, rels.back hm l l0 l' h0 h⟩
  | .ifc t a, _, _, h0, h => by
    unfold rel at h0 h ⊢
    obtain ⟨u0, _, h0⟩ := h0
    obtain ⟨u, e, h⟩ := h
    exact ⟨u, e, rel.back hm a u0 u h0 h⟩
  | .fn f a b, _, _, h0, h => by
    unfold rel at h0 h ⊢
    obtain ⟨f0, a0, b0, _, g0, h1, h2⟩ := h0
    obtain ⟨f', a', b', e, g, h3, h4⟩ := h
    refine ⟨f', a', b', e, ?_, rels.back hm a a0 a' h1 h3, rels.back hm b b0 b' h2 h4⟩
    cases f <;> first
      | exact g
      | (obtain ⟨r, e0, _⟩ := g0
         obtain ⟨r', e1, e2⟩ := g
         rw [hm _ _ e0] at e1
         cases e1
         exact ⟨r, e0, e2⟩)
  | .ext _, _, _, _, h => by unfold rel at h ⊢; exact h
  | .any, _, _, _, h => by unfold rel at h ⊢; exact h
  | .rng _ _ _, _, _, _, h => by unfold rel at h ⊢; exact h
theorem rels.back {μ μ1 : Mu} {w w1 : World} (hm : More μ μ1) : ∀ (a : List AV) (v0 v : List Value), rels ρ μ w a v0 → rels ρ μ1 w1 a v → rels ρ μ w1 a v
  | [], _, _, _, h => by unfold rels at h ⊢; exact h
  | x :: xs, _, _, h0, h => by
    unfold rels at h0 h ⊢
    obtain ⟨a0, r0, _, p0, q0⟩ := h0
    obtain ⟨a, r1, e, p, q⟩ := h
    exact ⟨a, r1, e, rel.back hm x a0 a p0 p, rels.back hm xs r0 r1 q0 q⟩
end
theorem window.back {μ μ1 : Mu} {w w1 : World} (hm : More μ μ1) {base base1 : Nat} {l : List AV} {c0 c1 : Array Value} (h0 : window ρ μ w base l c0) (h1 : window ρ μ1 w1 base1 l c1) : window ρ μ w1 base1 l c1 :=
  ⟨h1.1, fun i x hx => by
    obtain ⟨v0, _, a⟩ := h0.2 i x hx
    obtain ⟨v, e, b⟩ := h1.2 i x hx
    exact ⟨v, e, rel.back hm x v0 v a b⟩⟩
theorem entsRel.back {μ μ1 : Mu} {w w1 : World} (hm : More μ μ1) : ∀ {l : List AE} {m0 m1 : List MapEntry}, entsRel ρ μ w l m0 → entsRel ρ μ1 w1 l m1 → entsRel ρ μ w1 l m1
  | [], _, _, _, h => h
  | a :: r, _, _, h0, h => by
    obtain ⟨e0, es0, _, ⟨_, _, p0, _⟩, q0⟩ := h0
    obtain ⟨e, es, rfl, ⟨g1, g2, p, g4⟩, q⟩ := h
    exact ⟨e, es, rfl, ⟨g1, g2, rel.back hm _ _ _ p0 p, g4⟩, entsRel.back hm q0 q⟩
theorem objRel.back {μ μ1 : Mu} {w w1 : World} (hm : More μ μ1) {base base1 : Nat} {ab : AB} {o0 o1 : Obj} (h0 : objRel P ρ μ w base ab o0) (h1 : objRel P ρ μ1 w1 base1 ab o1) : objRel P ρ μ w1 base1 ab o1 := by
  cases ab with
  | cells l e =>
    obtain ⟨c0, _, a, _⟩ := h0
    obtain ⟨c1, e1, b, c⟩ := h1
    exact ⟨c1, e1, a.back hm b, c⟩
  | frz l e =>
    obtain ⟨c0, _, _, a⟩ := h0
    obtain ⟨c1, fz, e1, b⟩ := h1
    exact ⟨c1, fz, e1, a.back hm b⟩
  | map es clock =>
    obtain ⟨m0, _, _, a⟩ := h0
    obtain ⟨m1, e1, e2, b⟩ := h1
    exact ⟨m1, e1, e2, a.back hm b⟩
  | loop a =>
    obtain ⟨l0, _, _, _, _, _, q0, _⟩ := h0
    obtain ⟨l1, e1, e2, p1, p2, p3, q1, p4, p5, p6⟩ := h1
    exact ⟨l1, e1, e2, p1, p2, p3, rels.back hm _ _ _ q0 q1, p4, p5, p6⟩
  | iter m since seen last =>
    obtain ⟨_, m0, _, q0⟩ := h0
    obtain ⟨e0, m1, e1, q1⟩ := h1
    refine ⟨e0, m1, e1, ?_⟩
    cases m with
    | none => exact q1
    | some b =>
      obtain ⟨r0, g0, _⟩ := q0
      obtain ⟨r1, g1, g2⟩ := q1
      rw [hm _ _ g0] at g1
      cases g1
      exact ⟨r0, g0, g2⟩
  | defd => exact h1
  | gone => trivial
/-- New blocks of which nobody knows are forgotten. -/
theorem EffL.forget {μ μ1 : Mu} {h h1 : List AB} {w w1 : World} (hr : HRL P ρ fl μ h w) (q : EffL P ρ fl μ h w μ1 h1 w1) (hl : ∀ b, b < h.length → h1[b]? = h[b]?) : EffL P ρ fl μ h w μ h w1 := by
  refine ⟨More.refl μ, Nat.le_refl _, fun b x e1 e2 => (by rw [e1] at e2; cases e2), fun _ _ _ => rfl, fun _ e => e, fun _ _ _ e => e, q.grows, q.size, fun b r base e1 e2 => (by rw [e1] at e2; cases e2), q.rest, q.same, ?_⟩
  refine ⟨q.hr.floor, hr.dom, fun b r base ab e1 e2 => ?_, hr.inj⟩
  have hb := hr.dom b _ e1
  obtain ⟨p1, p2, o1, p3, p4⟩ := q.hr.obj b r base ab (q.more _ _ e1) (by rw [hl b hb]; exact e2)
  obtain ⟨_, _, o0, _, g4⟩ := hr.obj b r base ab e1 e2
  exact ⟨p1, p2, o1, p3, g4.back q.more p4⟩
theorem Eff.forget {μ μ1 : Mu} {h h1 : AH} {w w1 : World} (hr : HR P ρ fl μ h w) (q : Eff P ρ fl μ h w μ1 h1 w1) (he : Ext h.n h h1) : Eff P ρ fl μ h w μ h w1 :=
  EffL.forget hr q fun b hb => by
    rw [L_at, L_at]
    exact he.2 b (by rw [show h.L.length = h.n from vL_n _ _] at hb; exact hb)
theorem sums_ok00 (ρ : Nat → Value) (fl : Nat) : SumsOK P ρ fl S00 := by
  intro f g args h v h' hs
  cases hs
/-- A contract that gives a plain value and changes nothing that is seen. -/
theorem sum_of_wc {T : TT} {S : Sums} (hT : TT.Sound P T) (hNG : NoNG P) (hMix : P.follows .mixedOrders = true) (hS : SumsOK P ρ fl S) {f : FuncId} {args : List AV} {h : AH} {x : Value} (hx : scal x = true)
    (hw : WC P T S f args h fun r h' => Ext h.n h h' ∧ r = .lit x) {μ : Mu} {w : World} {args' : List Value} (hr : HR P ρ fl μ h w) (ha : rels ρ μ w args args') :
    Calls P f args'.toArray w fun e w' => ∃ μ' v', e = .returned v' ∧ Eff P ρ fl μ h w μ' h w' ∧ rel ρ μ' w' (.lit x) v' := by
  obtain ⟨n, o, h1, hex, v, cm, rfl, he, rfl⟩ := hw
  intro cs
  obtain ⟨_, h2⟩ := ex_ok hT hNG hMix hS n _ _ _ _ hex
  obtain ⟨_, μ', w', f', cs', q1, q2, q3, q4⟩ := h2 _ w cs args' hr ha trivial
  cases cm with
  | some m => rename_i h3; cases h3
  | none =>
    have q4 : cs' = cs := q4
    subst q4
    obtain ⟨r1, r2, r3, r4, fn, v', r5, r6, r7⟩ := q3
    exact ⟨.returned v', w', f', ⟨μ, v', rfl, q1.forget hr he, by rw [rel_lit_inv r7]; exact rel_lit hx⟩, q2, r1, r4, r2, r3, fn, by rw [r1]; exact r5, r6⟩
end Go.Proofs.Ytkgbeihcepociaa.Ex
end

section

set_option linter.unusedSimpArgs false
set_option linter.unusedVariables false
namespace Go.Proofs.Ytkgbeihcepociaa.Ex
open Go Go.RowKit Go.Sort
def srtI (xs : List Int) : List Int := xs.mergeSort fun x y => decide (x ≤ y)
def intsL : List AV → Option (List Int)
  | [] => some []
  | .lit (.int .i64 x) :: r => (intsL r).map (x :: ·)
  | _ :: _ => none
def avI (xs : List Int) : List AV := xs.map fun x => .lit (.int .i64 x)
theorem intsL_eq : ∀ {l : List AV} {xs : List Int}, intsL l = some xs → l = avI xs
  | [], xs, h => by cases h; rfl
  | a :: r, xs, h => by
    unfold intsL at h
    split at h
    · rename_i h0; cases h0
    · rename_i x r' h0
      cases h0
      cases hr : intsL r with
      | none => rw [hr] at h; cases h
      | some ys =>
        rw [hr] at h
        cases h
        rw [intsL_eq hr]
        rfl
    · cases h
theorem intsL_avI : ∀ xs : List Int, intsL (avI xs) = some xs
  | [] => rfl
  | x :: xs => by
    show (intsL (avI xs)).map (x :: ·) = _
    rw [intsL_avI xs]
    rfl
def sSort : List AV → AH → Option (AV × AH)
  | [.sl b 0 n _], h => bif Nat.beq n 0 then some (.tup [], h) else match h.at b with
    | some (.cells l e) => match intsL l with
      | some xs => bif Nat.beq n xs.length && Nat.ble xs.length 4611686018427387903 then some (.tup [], h.put b (.cells (avI (srtI xs)) e)) else none
      | none => none
    | _ => none
  | [.lit (.slice none 0 0)], h => some (.tup [], h)
  | _, _ => none
variable {ρ : Nat → Value} {fl : Nat}
theorem eff_grow {P : Program} {μ : Mu} {h : AH} {w : World} (hr : HR P ρ fl μ h w) (os : Array Obj) : Eff P ρ fl μ h w μ h (grow w os) := by
  have hx : ∀ r, r < w.heap.size → (grow w os).heap[r]? = w.heap[r]? := fun r hr => by
    unfold grow
    simp only
    rw [Array.getElem?_append_left hr]
  have hlt : ∀ r o, w.heap[r]? = some o → r < w.heap.size := fun r o h => (Array.getElem?_eq_some_iff.1 h).1
  have hsz : w.heap.size ≤ (grow w os).heap.size := by unfold grow; simp
  have hg : Grows w (grow w os) := fun r cur e fz h => ⟨cur, e, fz, by rw [hx r (hlt r _ h)]; exact h, rfl⟩
  have hr' : HRL P ρ fl μ h.L w := hr
  show EffL P ρ fl μ h.L w μ h.L (grow w os)
  exact ⟨More.refl μ, Nat.le_refl _, fun b x h1 h2 => (by rw [h1] at h2; cases h2), fun _ _ _ => rfl, fun _ h => h, fun _ _ _ h => h, hg, hsz, fun b r base h1 h2 => (by rw [h1] at h2; cases h2), fun r h _ => hx r h, ⟨rfl, rfl, rfl⟩,
    ⟨Nat.le_trans hr'.floor hsz, hr'.dom, fun b r base ab h1 h2 => let ⟨h3, h4, o, h5, h6⟩ := hr'.obj b r base ab h1 h2; ⟨h3, Nat.lt_of_lt_of_le h4 hsz, o, by rw [hx r h4]; exact h5, h6.mono (More.refl μ) hg⟩, hr'.inj⟩⟩
theorem one_putRow {α : Type} {enc : α → Value} {w : World} {r : Nat} {e : TypeId} {cur : Array Value} {fz : Nat × Nat} (hg : w.heap[r]? = some (.cells cur e fz)) (n off : Nat) (d : Array α) [Inhabited α] :
    One r w (putRow enc (Sort.ahead w n) r off d) ∧ (putRow enc (Sort.ahead w n) r off d).heap[r]? = some (.cells (putCells enc off d cur) e fz) := by
  have hat : (putRow enc (Sort.ahead w n) r off d).heap[r]? = some (.cells (putCells enc off d cur) e fz) := by
    unfold putRow mapBlock Sort.ahead
    simp only [Array.getElem?_modify, if_true, hg, Option.map_some, onCells]
  have hot : ∀ k, k ≠ r → (putRow enc (Sort.ahead w n) r off d).heap[k]? = w.heap[k]? := fun k hk => by
    unfold putRow mapBlock Sort.ahead
    simp only [Array.getElem?_modify]
    rw [if_neg (fun hh => hk hh.symm)]
  refine ⟨⟨by unfold putRow mapBlock Sort.ahead; simp, hot, fun k cur' e' fz' hk => ?_, ⟨rfl, rfl, rfl⟩⟩, hat⟩
  by_cases hkr : k = r
  · subst hkr
    rw [hg] at hk
    obtain ⟨rfl, rfl, rfl⟩ := Obj.cells.inj (Option.some.inj hk)
    exact ⟨_, _, _, hat, by unfold putCells; simp⟩
  · exact ⟨cur', e', fz', by rw [hot k hkr]; exact hk, rfl⟩
theorem sSort_ok {μ : Mu} {h h' : AH} {w : World} {v : AV} {args : List AV} {args' : List Value} (hg : sSort args h = some (v, h')) (hr : HR Try.prog ρ fl μ h w) (ha : rels ρ μ w args args') :
    Calls Try.prog 89 args'.toArray w fun e w' => ∃ μ' v', e = .returned v' ∧ Eff Try.prog ρ fl μ h w μ' h' w' ∧ rel ρ μ' w' v v' := by
  have hnone : ∀ p c, Calls Try.prog 89 #[.slice p 0 c] w fun e w' => e = .returned (.tuple #[]) ∧ w' = w := fun p c => Any.slices_Sort_int_none Try.lays189 p c w
  have hret : ∀ w', rel ρ μ w' (.tup []) (.tuple #[]) := fun w' => by unfold rel; exact ⟨[], rfl, rels_nil⟩
  unfold sSort at hg
  split at hg
  · rename_i b n c
    obtain ⟨v1, vs, rfl, r1, r2⟩ := rels_cons_inv ha
    obtain rfl := rels_nil_inv r2
    cases hn : Nat.beq n 0 with
    | true =>
      rw [hn] at hg
      cases hg
      have h0 : n = 0 := Nat.eq_of_beq_eq_true hn
      subst h0
      have hv : ∃ p c', v1 = .slice p 0 c' := by
        rcases rel_sl_inv r1 with ⟨r, base, o, c', _, rfl, _⟩ | hh
        · exact ⟨_, _, rfl⟩
        · obtain ⟨h1, h2, p, rfl⟩ := hh
          exact ⟨_, _, rfl⟩
      obtain ⟨p, c', rfl⟩ := hv
      refine (hnone p c').mono fun e w' hy => ?_
      obtain ⟨rfl, rfl⟩ := hy
      exact ⟨μ, _, rfl, Eff.refl hr, hret _⟩
    | false =>
    rw [hn] at hg
    simp only [cond_false] at hg
    split at hg
    case h_2 => cases hg
    rename_i l e hb
    split at hg
    case h_2 => cases hg
    rename_i xs hxs
    cases hcc : (Nat.beq n xs.length && Nat.ble xs.length 4611686018427387903) with
    | false => rw [hcc] at hg; cases hg
    | true =>
    rw [hcc] at hg
    cases hg
    simp only [Bool.and_eq_true] at hcc
    have hnx : n = xs.length := Nat.eq_of_beq_eq_true hcc.1
    have hle : xs.length ≤ 4611686018427387903 := Nat.le_of_ble_eq_true hcc.2
    have hn0 : n ≠ 0 := fun hh => by subst hh; cases hn
    obtain rfl := intsL_eq hxs
    subst hnx
    rcases rel_sl_inv r1 with ⟨r, base, o, c', m1, rfl, hco, hcap⟩ | hh
    case inr => exact absurd hh.1 hn0
    have hc0 := (capRel_le hcap).1
    have ho : o = base := by rcases hco with h | h <;> omega
    subst ho
    have hgb : getB h b = some (avI xs, e) := by unfold getB; rw [hb]
    obtain ⟨cur, k1, k2, k3⟩ := getB_sound hr m1 hgb
    have hgx : ∀ (ys : List Int) (j : Nat) (hj : j < ys.length), (avI ys)[j]? = some (.lit (.int .i64 ys[j])) := fun ys j hj => by
      unfold avI
      rw [List.getElem?_map, List.getElem?_eq_getElem hj]
      rfl
    have hlA : (avI xs).length = xs.length := by unfold avI; simp
    have hH : Holds (Value.int .i64) w r o xs.toArray := fun j hj => by
      have hj' : j < xs.length := by simpa using hj
      obtain ⟨v0, q1, q2⟩ := k2.2 j _ (hgx xs j hj')
      refine ⟨?_, frozen_in k1⟩
      rw [cell_in k1, q1, rel_lit_inv q2]
      simp [hj']
    have hsl : (srtI xs).length = xs.length := by unfold srtI; simp
    refine (Any.slices_Sort_int Try.lays189 r o c' xs w hH (Array.getElem?_eq_some_iff.1 k1).1 (by omega)).mono fun e' w' hy => ?_
    obtain ⟨rfl, n', os, rfl⟩ := hy
    obtain ⟨hone, hat⟩ := one_putRow (enc := Value.int .i64) k1 n' o (srtI xs).toArray
    have hef : Eff Try.prog ρ fl μ h w μ (h.put b (.cells (avI (srtI xs)) e)) (putRow (Value.int .i64) (Sort.ahead w n') r o (srtI xs).toArray) := by
      refine Eff.upd hr m1 hb rfl hone hat ⟨_, rfl, ⟨?_, fun i x hi => ?_⟩, fun hbg => ?_⟩
      · have := k2.1
        unfold putCells avI
        rw [hlA] at this
        simpa [hsl] using this
      · have hi' : i < (srtI xs).length := by
          have := (List.getElem?_eq_some_iff.1 hi).1
          unfold avI at this
          simpa using this
        rw [hgx _ i hi'] at hi
        cases hi
        refine ⟨.int .i64 (srtI xs)[i], ?_, rel_lit rfl⟩
        have hsz := k2.1
        rw [hlA] at hsz
        unfold putCells
        rw [Array.getElem?_mapIdx, Array.getElem?_eq_getElem (by omega)]
        simp only [Option.map_some, List.size_toArray]
        rw [if_pos ⟨Nat.le_add_right _ _, by omega⟩, show o + i - o = i by omega]
        simp [hi']
      · obtain ⟨b1, b2⟩ := k3 hbg
        refine ⟨b1, ?_⟩
        rw [hlA] at b2
        unfold putCells avI
        simpa [hsl] using b2
    refine ⟨μ, _, rfl, Eff.trans hr hef (eff_grow hef.hr os), hret _⟩
  · cases hg
    obtain ⟨v1, vs, rfl, r1, r2⟩ := rels_cons_inv ha
    obtain rfl := rels_nil_inv r2
    obtain rfl := rel_lit_inv r1
    refine (hnone none 0).mono fun e w' hy => ?_
    obtain ⟨rfl, rfl⟩ := hy
    exact ⟨μ, _, rfl, Eff.refl hr, hret _⟩
  · cases hg
end Go.Proofs.Ytkgbeihcepociaa.Ex
end

section

namespace Go.Proofs
open Go.Shelf
def Try.lays20_ren : Go.Shelf.Ren := ⟨fun | 20 => 90 | n => n, fun | 22 => 63 | 3 => 3 | 4 => 4 | 0 => 0 | n => n, fun | n => n⟩
theorem Try.lays20 : Go.Proofs.Lays2.n20 Try.prog Try.lays20_ren := {
  mixed := by kernel_rfl,
  f20 := Try.func90.trans (congrArg some (by kernel_rfl)),
  t0 := Try.underlying0,
  a0 := Try.isAgg0,
  z0 := Try.sizeOf0,
  v0 := Try.zeroValue0,
  t3 := Try.underlying3,
  a3 := Try.isAgg3,
  z3 := Try.sizeOf3,
  v3 := Try.zeroValue3,
  t4 := Try.underlying4,
  a4 := Try.isAgg4,
  z4 := Try.sizeOf4,
  v4 := Try.zeroValue4,
  t22 := Try.underlying63,
  a22 := Try.isAgg63,
  z22 := Try.sizeOf63,
  v22 := Try.zeroValue63,
  i3 := by kernel_rfl }
end Go.Proofs
end

section

set_option linter.unusedSimpArgs false
set_option linter.unusedVariables false
namespace Go.Proofs.Ytkgbeihcepociaa.Ex
open Go Go.RowKit Go.Lib Go.Sort
def cmpI (xs : List Int) : List Int := Lib.compact xs
def cmpO (xs : List Int) : List Int := cmpI xs ++ List.replicate (xs.length - (cmpI xs).length) 0
theorem cmpI_le (xs : List Int) : (cmpI xs).length ≤ xs.length := by
  unfold cmpI Lib.compact Lib.compactUpTo
  rw [List.length_map]
  have := List.length_filter_le (Lib.keeps xs.toArray) (List.range xs.length)
  rw [List.length_range] at this
  exact this
theorem cmpO_len (xs : List Int) : (cmpO xs).length = xs.length := by
  have := cmpI_le xs
  unfold cmpO
  rw [List.length_append, List.length_replicate]
  omega
def sCompact : List AV → AH → Option (AV × AH)
  | [.sl b 0 n cap], h => bif Nat.beq n 0 then some (.sl b 0 n cap, h) else match h.at b with
    | some (.cells l e) => match intsL l with
      | some xs => bif Nat.beq n xs.length && Nat.ble xs.length 4611686018427387903 then some (.sl b 0 (cmpI xs).length cap, h.put b (.cells (avI (cmpO xs)) e)) else none
      | none => none
    | _ => none
  | [.lit (.slice none 0 0)], h => some (.lit (.slice none 0 0), h)
  | _, _ => none
variable {ρ : Nat → Value} {fl : Nat}
theorem sCompact_ok {μ : Mu} {h h' : AH} {w : World} {v : AV} {args : List AV} {args' : List Value} (hg : sCompact args h = some (v, h')) (hr : HR Try.prog ρ fl μ h w) (ha : rels ρ μ w args args') :
    Calls Try.prog 90 args'.toArray w fun e w' => ∃ μ' v', e = .returned v' ∧ Eff Try.prog ρ fl μ h w μ' h' w' ∧ rel ρ μ' w' v v' := by
  have hnone : ∀ p c, Calls Try.prog 90 #[.slice p 0 c] w fun e w' => e = .returned (.slice p 0 c) ∧ w' = w := fun p c => Any.slices_Compact_int_empty Try.lays20 p c w
  unfold sCompact at hg
  split at hg
  · rename_i b n c
    obtain ⟨v1, vs, rfl, r1, r2⟩ := rels_cons_inv ha
    obtain rfl := rels_nil_inv r2
    cases hn : Nat.beq n 0 with
    | true =>
      rw [hn] at hg
      cases hg
      have h0 : n = 0 := Nat.eq_of_beq_eq_true hn
      subst h0
      have hv : ∃ p c', v1 = .slice p 0 c' := by
        rcases rel_sl_inv r1 with ⟨r, base, o, c', _, rfl, _⟩ | hh
        · exact ⟨_, _, rfl⟩
        · obtain ⟨h1, h2, p, rfl⟩ := hh
          exact ⟨_, _, rfl⟩
      obtain ⟨p, c', rfl⟩ := hv
      refine (hnone p c').mono fun e w' hy => ?_
      obtain ⟨rfl, rfl⟩ := hy
      exact ⟨μ, _, rfl, Eff.refl hr, r1⟩
    | false =>
    rw [hn] at hg
    simp only [cond_false] at hg
    split at hg
    case h_2 => cases hg
    rename_i l e hb
    split at hg
    case h_2 => cases hg
    rename_i xs hxs
    cases hcc : (Nat.beq n xs.length && Nat.ble xs.length 4611686018427387903) with
    | false => rw [hcc] at hg; cases hg
    | true =>
    rw [hcc] at hg
    cases hg
    simp only [Bool.and_eq_true] at hcc
    have hnx : n = xs.length := Nat.eq_of_beq_eq_true hcc.1
    have hle : xs.length ≤ 4611686018427387903 := Nat.le_of_ble_eq_true hcc.2
    have hn0 : n ≠ 0 := fun hh => by subst hh; cases hn
    obtain rfl := intsL_eq hxs
    subst hnx
    rcases rel_sl_inv r1 with ⟨r, base, o, c', m1, rfl, hco, hcap⟩ | hh
    case inr => exact absurd hh.1 hn0
    have hc0 := (capRel_le hcap).1
    have ho : o = base := by rcases hco with h | h <;> omega
    subst ho
    have hgb : getB h b = some (avI xs, e) := by unfold getB; rw [hb]
    obtain ⟨cur, k1, k2, k3⟩ := getB_sound hr m1 hgb
    have hgx : ∀ (ys : List Int) (j : Nat) (hj : j < ys.length), (avI ys)[j]? = some (.lit (.int .i64 ys[j])) := fun ys j hj => by
      unfold avI
      rw [List.getElem?_map, List.getElem?_eq_getElem hj]
      rfl
    have hlA : (avI xs).length = xs.length := by unfold avI; simp
    have hH : Holds (Value.int .i64) w r o xs.toArray := fun j hj => by
      have hj' : j < xs.length := by simpa using hj
      obtain ⟨v0, q1, q2⟩ := k2.2 j _ (hgx xs j hj')
      refine ⟨?_, frozen_in k1⟩
      rw [cell_in k1, q1, rel_lit_inv q2]
      simp [hj']
    have hsl : (cmpO xs).length = xs.length := cmpO_len xs
    refine (Any.slices_Compact_int Try.lays20 r o c' xs w hH (by omega) hc0).mono fun e' w' hy => ?_
    obtain ⟨rfl, n', rfl⟩ := hy
    obtain ⟨hone, hat⟩ := one_putRow (enc := Value.int .i64) k1 n' o (cmpO xs).toArray
    have hef : Eff Try.prog ρ fl μ h w μ (h.put b (.cells (avI (cmpO xs)) e)) (putRow (Value.int .i64) (Sort.ahead w n') r o (cmpO xs).toArray) := by
      refine Eff.upd hr m1 hb rfl hone hat ⟨_, rfl, ⟨?_, fun i x hi => ?_⟩, fun hbg => ?_⟩
      · have := k2.1
        unfold putCells avI
        rw [hlA] at this
        simpa [hsl] using this
      · have hi' : i < (cmpO xs).length := by
          have := (List.getElem?_eq_some_iff.1 hi).1
          unfold avI at this
          simpa using this
        rw [hgx _ i hi'] at hi
        cases hi
        refine ⟨.int .i64 (cmpO xs)[i], ?_, rel_lit rfl⟩
        have hsz := k2.1
        rw [hlA] at hsz
        unfold putCells
        rw [Array.getElem?_mapIdx, Array.getElem?_eq_getElem (by omega)]
        simp only [Option.map_some, List.size_toArray]
        rw [if_pos ⟨Nat.le_add_right _ _, by omega⟩, show o + i - o = i by omega]
        simp [hi']
      · obtain ⟨b1, b2⟩ := k3 hbg
        refine ⟨b1, ?_⟩
        rw [hlA] at b2
        unfold putCells avI
        simpa [hsl] using b2
    have hgr : Grows w (putRow (Value.int .i64) (Sort.ahead w n') r o (cmpO xs).toArray) := hef.grows
    have hcl := cmpI_le xs
    refine ⟨μ, _, rfl, hef, ?_⟩
    have hcap2 : capRel w r (o + 0) (cmpI xs).length c c' := by
      cases c with
      | kn k => exact ⟨hcap.1, Nat.le_trans hcl hcap.2.1, hcap.2.2⟩
      | un z => exact ⟨Nat.le_trans hcl hcap.1, hcap.2.1, hcap.2.2.1, hcap.2.2.2⟩
    unfold rel
    exact .inl ⟨r, o, o, c', m1, rfl, .inr (by omega), hcap2.mono hgr⟩
  · cases hg
    obtain ⟨v1, vs, rfl, r1, r2⟩ := rels_cons_inv ha
    obtain rfl := rels_nil_inv r2
    have r1' := r1
    obtain rfl := rel_lit_inv r1
    refine (hnone none 0).mono fun e w' hy => ?_
    obtain ⟨rfl, rfl⟩ := hy
    exact ⟨μ, _, rfl, Eff.refl hr, r1'⟩
  · cases hg
end Go.Proofs.Ytkgbeihcepociaa.Ex
end

section

set_option linter.unusedSimpArgs false
set_option linter.unusedVariables false
set_option maxRecDepth 10000
set_option maxHeartbeats 4000000
namespace Go.Proofs.Ytkgbeihcepociaa.Ex
open Go
abbrev I3 := Int × Int × Int
/-- One round of MIX. -/
def mixR (s0 s1 s2 : Int) (x : I3) : I3 :=
  let a := xorI .u32 (IntKind.u32.wrap (IntKind.u32.wrap (x.1 - x.2.1) - x.2.2)) (shrI .u32 x.2.2 s0)
  let b := xorI .u32 (IntKind.u32.wrap (IntKind.u32.wrap (x.2.1 - x.2.2) - a)) (shlI .u32 a s1)
  let c := xorI .u32 (IntKind.u32.wrap (IntKind.u32.wrap (x.2.2 - a) - b)) (shrI .u32 b s2)
  (a, b, c)
def mixN : Nat → I3 → I3
  | 0, x => x
  | 1, x => mixR 13 8 13 x
  | 2, x => mixR 12 16 5 (mixR 13 8 13 x)
  | _, x => mixR 3 10 15 (mixR 12 16 5 (mixR 13 8 13 x))
def mix3 (x : I3) : I3 := mixN 3 x
def u3 (a : Int) : AV := .lit (.int .u32 a)
def mixTab : AV := .agg [.lit (.int .i64 13), .lit (.int .i64 8), .lit (.int .i64 13), .lit (.int .i64 12), .lit (.int .i64 16), .lit (.int .i64 5), .lit (.int .i64 3), .lit (.int .i64 10), .lit (.int .i64 15)]
theorem mixV0 : pur Try.prog (Instr.index 229 (.agg #[.int .i64 13, .int .i64 8, .int .i64 13, .int .i64 12, .int .i64 16, .int .i64 5, .int .i64 3, .int .i64 10, .int .i64 15]) (.int .i64 0)) = some (.ok (.agg #[.int .i64 13, .int .i64 8, .int .i64 13])) := by kernel_rfl
theorem mixV1 : pur Try.prog (Instr.index 229 (.agg #[.int .i64 13, .int .i64 8, .int .i64 13, .int .i64 12, .int .i64 16, .int .i64 5, .int .i64 3, .int .i64 10, .int .i64 15]) (.int .i64 1)) = some (.ok (.agg #[.int .i64 12, .int .i64 16, .int .i64 5])) := by kernel_rfl
theorem mixV2 : pur Try.prog (Instr.index 229 (.agg #[.int .i64 13, .int .i64 8, .int .i64 13, .int .i64 12, .int .i64 16, .int .i64 5, .int .i64 3, .int .i64 10, .int .i64 15]) (.int .i64 2)) = some (.ok (.agg #[.int .i64 3, .int .i64 10, .int .i64 15])) := by kernel_rfl
section
variable {t : TM} {h : AH} {d : Option Tmp} {ty : TypeId} {ps : String} {af : Array Edge} {g : Option (Nat × Bool)}
theorem mixTab0 {i j : Nat} (hx : t.get i = mixTab) (hy : t.get j = .lit (.int .i64 0)) : aop Try.prog (tabOf Try.prog NT0) ⟨d, .index 229 (.tmp i) (.tmp j), ty, ps, af, g⟩ t h = some (.val (.agg [.lit (.int .i64 13), .lit (.int .i64 8), .lit (.int .i64 13)]), h) :=
  a_index_lit (by rw [hx]; rfl) (by rw [hy]; rfl) mixV0 rfl
theorem mixTab1 {i j : Nat} (hx : t.get i = mixTab) (hy : t.get j = .lit (.int .i64 1)) : aop Try.prog (tabOf Try.prog NT0) ⟨d, .index 229 (.tmp i) (.tmp j), ty, ps, af, g⟩ t h = some (.val (.agg [.lit (.int .i64 12), .lit (.int .i64 16), .lit (.int .i64 5)]), h) :=
  a_index_lit (by rw [hx]; rfl) (by rw [hy]; rfl) mixV1 rfl
theorem mixTab2 {i j : Nat} (hx : t.get i = mixTab) (hy : t.get j = .lit (.int .i64 2)) : aop Try.prog (tabOf Try.prog NT0) ⟨d, .index 229 (.tmp i) (.tmp j), ty, ps, af, g⟩ t h = some (.val (.agg [.lit (.int .i64 3), .lit (.int .i64 10), .lit (.int .i64 15)]), h) :=
  a_index_lit (by rw [hx]; rfl) (by rw [hy]; rfl) mixV2 rfl
end
theorem trio_x {H : AH} {p : Nat} {x : I3} (hp : H.at p = some (.cells [.lit (.int .u32 x.1), .lit (.int .u32 x.2.1), .lit (.int .u32 x.2.2)] 204)) :
    WC Try.prog (tabOf Try.prog NT0) S00 150 [.ptr p 0] H fun r h' => h'.at p = some (.cells [.lit (.int .u32 (mix3 x).1), .lit (.int .u32 (mix3 x).2.1), .lit (.int .u32 (mix3 x).2.2)] 204) ∧ H.n ≤ h'.n ∧ ∀ q, q < H.n → q ≠ p → h'.at q = H.at q := by
  refine WC_fn Try.func150 rfl rfl ?_
  have hlt := at_lt hp
  have L0 := fun e off => ld_at (T := tabOf Try.prog NT0) hp e off
  simp only [core, Nat.reduceAdd, Nat.reduceSub, Nat.reduceMul, Nat.reduceLT, Nat.reduceEqDiff, reduceCtorEq, Nat.reduceLeDiff, Int.reduceLE, Int.reduceLT, Int.reduceToNat, Try.ntmps150]
  rw [WB_regionD [0, 1, 2, 3, 4, 5, 6, 7, 8, 9, 10, 11, 12, 13, 14] 26958519655973595170767904528538414010378582634470141901892646633472 (by kernel_rfl)]
  repeat ((with_reducible refine WDM_cons ?_; simp only [dw1]; try simp only [dw2, Nat.reduceAdd, Nat.reduceMul, Nat.reduceShiftRight, Nat.reduceMod, Nat.reduceEqDiff]); simp only [core, Nat.reduceAdd, Nat.reduceSub, Nat.reduceMul, Nat.reduceLT, Nat.reduceEqDiff, reduceCtorEq, Nat.reduceLeDiff, Int.reduceLE, Int.reduceLT, Int.reduceToNat, cored, L0])
  refine WB_for 3 (fun i t h => Ext H.n H h ∧ t.n = 63 ∧ t.get 0 = .ptr p 0 ∧ t.get 2 = .lit (.int .u32 (mixN i x).1) ∧ t.get 3 = .lit (.int .u32 (mixN i x).2.1) ∧ t.get 4 = .lit (.int .u32 (mixN i x).2.2) ∧ t.get 22 = mixTab ∧ t.get 23 = .lit (.int .i64 i)) ?_ ?_ _ _ ?_
  · rintro i t h hi hc ⟨he, hn, g0, g2, g3, g4, g22, g23⟩ ih
    have hi3 : i = 0 ∨ i = 1 ∨ i = 2 := by omega
    rcases hi3 with rfl | rfl | rfl
    · have g23 : t.get 23 = .lit (.int .i64 0) := g23
      have hw : IntKind.i64.wrap ((0 : Int) + 1) = ((0 + 1 : Nat) : Int) := by decide
      have hc : ((0 : Int) < 3) = True := by decide
      simp only [core, Nat.reduceAdd, Nat.reduceSub, Nat.reduceMul, Nat.reduceLT, Nat.reduceEqDiff, reduceCtorEq, Nat.reduceLeDiff, Int.reduceLE, Int.reduceLT, Int.reduceToNat, hn, g0, g2, g3, g4, g22, g23, hc, hw, mixTab0]
      refine ih _ _ ?_
      simp only [core, Nat.reduceAdd, Nat.reduceSub, Nat.reduceMul, Nat.reduceLT, Nat.reduceEqDiff, reduceCtorEq, Nat.reduceLeDiff, Int.reduceLE, Int.reduceLT, Int.reduceToNat, hn, g0, g2, g3, g4, g22, g23]
      refine ⟨he.push _ he.1, ?_⟩
      (repeat' apply And.intro) <;> first | rfl | trivial
    · have g23 : t.get 23 = .lit (.int .i64 1) := g23
      have hw : IntKind.i64.wrap ((1 : Int) + 1) = ((1 + 1 : Nat) : Int) := by decide
      have hc : ((1 : Int) < 3) = True := by decide
      simp only [core, Nat.reduceAdd, Nat.reduceSub, Nat.reduceMul, Nat.reduceLT, Nat.reduceEqDiff, reduceCtorEq, Nat.reduceLeDiff, Int.reduceLE, Int.reduceLT, Int.reduceToNat, hn, g0, g2, g3, g4, g22, g23, hc, hw, mixTab1]
      refine ih _ _ ?_
      simp only [core, Nat.reduceAdd, Nat.reduceSub, Nat.reduceMul, Nat.reduceLT, Nat.reduceEqDiff, reduceCtorEq, Nat.reduceLeDiff, Int.reduceLE, Int.reduceLT, Int.reduceToNat, hn, g0, g2, g3, g4, g22, g23]
      refine ⟨he.push _ he.1, ?_⟩
      (repeat' apply And.intro) <;> first | rfl | trivial
    · have g23 : t.get 23 = .lit (.int .i64 2) := g23
      have hw : IntKind.i64.wrap ((2 : Int) + 1) = ((2 + 1 : Nat) : Int) := by decide
      have hc : ((2 : Int) < 3) = True := by decide
      simp only [core, Nat.reduceAdd, Nat.reduceSub, Nat.reduceMul, Nat.reduceLT, Nat.reduceEqDiff, reduceCtorEq, Nat.reduceLeDiff, Int.reduceLE, Int.reduceLT, Int.reduceToNat, hn, g0, g2, g3, g4, g22, g23, hc, hw, mixTab2]
      refine ih _ _ ?_
      simp only [core, Nat.reduceAdd, Nat.reduceSub, Nat.reduceMul, Nat.reduceLT, Nat.reduceEqDiff, reduceCtorEq, Nat.reduceLeDiff, Int.reduceLE, Int.reduceLT, Int.reduceToNat, hn, g0, g2, g3, g4, g22, g23]
      refine ⟨he.push _ he.1, ?_⟩
      (repeat' apply And.intro) <;> first | rfl | trivial
  · rintro t h hc ⟨he, hn, g0, g2, g3, g4, g22, g23⟩
    have g23 : t.get 23 = .lit (.int .i64 3) := g23
    have hc : ((3 : Int) < 3) = False := by decide
    have hp2 : h.at p = some (.cells [.lit (.int .u32 x.1), .lit (.int .u32 x.2.1), .lit (.int .u32 x.2.2)] 204) := (he.2 p hlt).trans hp
    have hlt2 : p < h.n := at_lt hp2
    simp only [core, Nat.reduceAdd, Nat.reduceSub, Nat.reduceMul, Nat.reduceLT, Nat.reduceEqDiff, reduceCtorEq, Nat.reduceLeDiff, Int.reduceLE, Int.reduceLT, Int.reduceToNat, hn, g0, g2, g3, g4, g22, g23, hc, hp2]
    refine ⟨.inl trivial, at_put_same _ hlt2, he.1, fun q hq hqp => ?_⟩
    rw [at_put_ne _ (Ne.symm hqp)]
    exact he.2 q hq
  · simp only [core, Nat.reduceAdd, Nat.reduceSub, Nat.reduceMul, Nat.reduceLT, Nat.reduceEqDiff, reduceCtorEq, Nat.reduceLeDiff, Int.reduceLE, Int.reduceLT, Int.reduceToNat]
    refine ⟨Ext.refl _ _, ?_⟩
    (repeat' apply And.intro) <;> first | rfl | trivial
/-- A number in a block of its own. -/
def Bx (h : AH) (p : Nat) (a : Int) : Prop := h.at p = some (.cells [.lit (.int .u32 a)] 123)
theorem mix_x {H : AH} {p q r : Nat} {x : I3} (hp : Bx H p x.1) (hq : Bx H q x.2.1) (hr : Bx H r x.2.2) (pq : p ≠ q) (pr : p ≠ r) (qr : q ≠ r) :
    WC Try.prog (tabOf Try.prog NT0) S00 132 [.ptr p 0, .ptr q 0, .ptr r 0] H fun _ h' => Bx h' p (mix3 x).1 ∧ Bx h' q (mix3 x).2.1 ∧ Bx h' r (mix3 x).2.2 ∧ H.n ≤ h'.n ∧ ∀ b, b < H.n → b ≠ p → b ≠ q → b ≠ r → h'.at b = H.at b := by
  refine WC_fn Try.func132 rfl rfl ?_
  have lp := at_lt hp
  have lq := at_lt hq
  have lr := at_lt hr
  have Lp := fun e off => ld_at (T := tabOf Try.prog NT0) hp e off
  have Lq := fun e off => ld_at (T := tabOf Try.prog NT0) hq e off
  have Lr := fun e off => ld_at (T := tabOf Try.prog NT0) hr e off
  simp only [core, Nat.reduceAdd, Nat.reduceSub, Nat.reduceMul, Nat.reduceLT, Nat.reduceEqDiff, reduceCtorEq, Nat.reduceLeDiff, Int.reduceLE, Int.reduceLT, Int.reduceToNat, Try.ntmps132]
  rw [WB_regionD [0, 1, 2, 3, 4, 5, 6, 7, 8, 9, 10, 11] 11144928247238770519951308239364144742010880 (by kernel_rfl)]
  repeat ((with_reducible refine WDM_cons ?_; simp only [dw1]; try simp only [dw2, Nat.reduceAdd, Nat.reduceMul, Nat.reduceShiftRight, Nat.reduceMod, Nat.reduceEqDiff]); simp only [core, Nat.reduceAdd, Nat.reduceSub, Nat.reduceMul, Nat.reduceLT, Nat.reduceEqDiff, reduceCtorEq, Nat.reduceLeDiff, Int.reduceLE, Int.reduceLT, Int.reduceToNat, cored, Lp, Lq, Lr, lp, lq, lr])
  refine (trio_x (x := x) (at_push_n H _)).mono ?_
  rintro _ h1 ⟨h2, h3, h4⟩
  rw [n_push] at h3 h4
  have e1 : ∀ b, b < H.n → h1.at b = H.at b := fun b hb => (h4 b (by omega) (by omega)).trans (at_push_lt _ hb)
  have l0 : H.n < h1.n := by omega
  have lp1 : p < h1.n := by omega
  have lq1 : q < h1.n := by omega
  have lr1 : r < h1.n := by omega
  have L0 := fun e off => ld_at (T := tabOf Try.prog NT0) h2 e off
  have P1 := (e1 p lp).trans hp
  have Q1 := (e1 q lq).trans hq
  have R1 := (e1 r lr).trans hr
  simp only [core, Nat.reduceAdd, Nat.reduceSub, Nat.reduceMul, Nat.reduceLT, Nat.reduceEqDiff, reduceCtorEq, Nat.reduceLeDiff, Int.reduceLE, Int.reduceLT, Int.reduceToNat, L0, P1, Q1, R1, pq, pr, qr, lp1, lq1, lr1]
  refine ⟨.inl trivial, ?_, ?_, ?_, by omega, fun b hb b1 b2 b3 => ?_⟩
  · unfold Bx
    rw [at_put_ne _ (Ne.symm pr), at_put_ne _ (Ne.symm pq), at_put_same _ lp1]
  · unfold Bx
    rw [at_put_ne _ (Ne.symm qr), at_put_same _ (by rw [n_put]; exact lq1)]
  · unfold Bx
    rw [at_put_same _ (by rw [n_put, n_put]; exact lr1)]
  · rw [at_put_ne _ (Ne.symm b3), at_put_ne _ (Ne.symm b2), at_put_ne _ (Ne.symm b1)]
    exact e1 b hb
theorem Bx.ld {h : AH} {p : Nat} {a : Int} (hb : Bx h p a) (e off : Nat) : loadA (tabOf Try.prog NT0) h e p off = ldL (tabOf Try.prog NT0) e [.lit (.int .u32 a)] off := ld_at hb e off
theorem Bx.new {h : AH} {a : Int} {p : Nat} (hp : p = h.n) : Bx (h.push (.cells [.lit (.int .u32 a)] 123)) p a := by subst hp; exact at_push_n h _
theorem Bx.old {h : AH} {a : Int} {p : Nat} {x : AB} (hb : Bx h p a) : Bx (h.push x) p a := (at_push_lt _ (at_lt hb)).trans hb
theorem Bx.put {h : AH} {a b : Int} {p : Nat} (hb : Bx h p a) : Bx (h.put p (.cells [.lit (.int .u32 b)] 123)) p b := at_put_same _ (at_lt hb)
theorem Bx.keep {h : AH} {a : Int} {p q : Nat} {x : AB} (hb : Bx h p a) (hne : q ≠ p) : Bx (h.put q x) p a := (at_put_ne _ hne).trans hb
theorem Bx.lt {h : AH} {a : Int} {p : Nat} (hb : Bx h p a) : p < h.n := at_lt hb
theorem Bx.after {h h' : AH} {a : Int} {b p q r : Nat} (hb : Bx h b a) (hk : ∀ c, c < h.n → c ≠ p → c ≠ q → c ≠ r → h'.at c = h.at c) (h1 : b ≠ p) (h2 : b ≠ q) (h3 : b ≠ r) : Bx h' b a := (hk b hb.lt h1 h2 h3).trans hb
def hash2F (a b : Int) : Int :=
  let t := mix3 (a, b, xorI .u32 (xorI .u32 1315423911 a) b)
  let u := mix3 (231232, t.1, t.2.2)
  (mix3 (t.2.1, 1232, u.2.2)).2.2
def hash3F (a b c : Int) : Int :=
  let t := mix3 (a, b, xorI .u32 (xorI .u32 (xorI .u32 1315423911 a) b) c)
  let u := mix3 (c, 231232, t.2.2)
  let v := mix3 (1232, t.1, u.2.2)
  let w := mix3 (t.2.1, u.2.1, v.2.2)
  (mix3 (v.1, u.1, w.2.2)).2.2
theorem Ext.of_keep {H h h' : AH} {p q r : Nat} (he : Ext H.n H h) (hn : h.n ≤ h'.n) (hk : ∀ c, c < h.n → c ≠ p → c ≠ q → c ≠ r → h'.at c = h.at c) (h1 : H.n ≤ p) (h2 : H.n ≤ q) (h3 : H.n ≤ r) : Ext H.n H h' :=
  ⟨Nat.le_trans he.1 hn, fun b hb => (hk b (by have := he.1; omega) (by omega) (by omega) (by omega)).trans (he.2 b hb)⟩
theorem hash2_x {H : AH} {be oe : Nat} (a b : Int) : WC Try.prog (tabOf Try.prog NT0) S00 96 [.ptr be oe, .lit (.int .u32 a), .lit (.int .u32 b)] H fun r h' => Ext H.n H h' ∧ r = .lit (.int .u32 (hash2F a b)) := by
  refine WC_fn Try.func96 rfl rfl ?_
  simp only [core, Nat.reduceAdd, Nat.reduceSub, Nat.reduceMul, Nat.reduceLT, Nat.reduceEqDiff, reduceCtorEq, Nat.reduceLeDiff, Int.reduceLE, Int.reduceLT, Int.reduceToNat, Try.ntmps96]
  refine (mix_x (x := (a, b, xorI .u32 (xorI .u32 1315423911 a) b)) (by repeat (first | exact Bx.new rfl | refine Bx.old ?_)) (by repeat (first | exact Bx.new rfl | refine Bx.old ?_)) (by repeat (first | exact Bx.new rfl | refine Bx.old ?_)) (by omega) (by omega) (by omega)).mono ?_
  rintro _ h1 ⟨A1, B1, C1, n1, k1⟩
  have X1 : Bx h1 (H.n + 1 + 1 + 1) 231232 := Bx.after (by repeat (first | exact Bx.new rfl | refine Bx.old ?_)) k1 (by omega) (by omega) (by omega)
  have Y1 : Bx h1 (H.n + 1 + 1 + 1 + 1) 1232 := Bx.after (by repeat (first | exact Bx.new rfl | refine Bx.old ?_)) k1 (by omega) (by omega) (by omega)
  have E1 : Ext H.n H h1 := Ext.of_keep (by repeat (first | exact Ext.refl _ _ | refine Ext.push _ ?_ (by (try simp only [n_push]); omega))) n1 k1 (by omega) (by omega) (by omega)
  clear n1 k1
  obtain ⟨t, ht⟩ : ∃ t, t = mix3 (a, b, xorI .u32 (xorI .u32 1315423911 a) b) := ⟨_, rfl⟩
  rw [← ht] at A1 B1 C1
  simp only [core, Nat.reduceAdd, Nat.reduceSub, Nat.reduceMul, Nat.reduceLT, Nat.reduceEqDiff, reduceCtorEq, Nat.reduceLeDiff, Int.reduceLE, Int.reduceLT, Int.reduceToNat]
  refine (mix_x (x := (231232, t.1, t.2.2)) X1 A1 C1 (by omega) (by omega) (by omega)).mono ?_
  rintro _ h2 ⟨X2, A2, C2, n2, k2⟩
  have B2 := B1.after k2 (by omega) (by omega) (by omega)
  have Y2 := Y1.after k2 (by omega) (by omega) (by omega)
  have E2 := Ext.of_keep E1 n2 k2 (by omega) (by omega) (by omega)
  obtain ⟨u, hu⟩ : ∃ u, u = mix3 (231232, t.1, t.2.2) := ⟨_, rfl⟩
  rw [← hu] at X2 A2 C2
  simp only [core, Nat.reduceAdd, Nat.reduceSub, Nat.reduceMul, Nat.reduceLT, Nat.reduceEqDiff, reduceCtorEq, Nat.reduceLeDiff, Int.reduceLE, Int.reduceLT, Int.reduceToNat]
  refine (mix_x (x := (t.2.1, 1232, u.2.2)) B2 Y2 C2 (by omega) (by omega) (by omega)).mono ?_
  rintro _ h3 ⟨B3, Y3, C3, n3, k3⟩
  have E3 := Ext.of_keep E2 n3 k3 (by omega) (by omega) (by omega)
  have L3 := C3.ld
  simp only [core, Nat.reduceAdd, Nat.reduceSub, Nat.reduceMul, Nat.reduceLT, Nat.reduceEqDiff, reduceCtorEq, Nat.reduceLeDiff, Int.reduceLE, Int.reduceLT, Int.reduceToNat, L3]
  refine ⟨E3, ?_⟩
  subst hu ht
  rfl
theorem hash3_x {H : AH} {be oe : Nat} (a b c : Int) : WC Try.prog (tabOf Try.prog NT0) S00 190 [.ptr be oe, .lit (.int .u32 a), .lit (.int .u32 b), .lit (.int .u32 c)] H fun r h' => Ext H.n H h' ∧ r = .lit (.int .u32 (hash3F a b c)) := by
  refine WC_fn Try.func190 rfl rfl ?_
  simp only [core, Nat.reduceAdd, Nat.reduceSub, Nat.reduceMul, Nat.reduceLT, Nat.reduceEqDiff, reduceCtorEq, Nat.reduceLeDiff, Int.reduceLE, Int.reduceLT, Int.reduceToNat, Try.ntmps190]
  obtain ⟨w0, hw0⟩ : ∃ w, w = xorI .u32 (xorI .u32 (xorI .u32 1315423911 a) b) c := ⟨_, rfl⟩
  rw [← hw0]
  refine (mix_x (x := (a, b, w0)) (by repeat (first | exact Bx.new rfl | refine Bx.old ?_)) (by repeat (first | exact Bx.new rfl | refine Bx.old ?_)) (by repeat (first | exact Bx.new rfl | refine Bx.old ?_)) (by omega) (by omega) (by omega)).mono ?_
  rintro _ h1 ⟨A1, B1, W1, n1, k1⟩
  have C1 : Bx h1 (H.n + 1 + 1) c := Bx.after (by repeat (first | exact Bx.new rfl | refine Bx.old ?_)) k1 (by omega) (by omega) (by omega)
  have X1 : Bx h1 (H.n + 1 + 1 + 1 + 1) 231232 := Bx.after (by repeat (first | exact Bx.new rfl | refine Bx.old ?_)) k1 (by omega) (by omega) (by omega)
  have Y1 : Bx h1 (H.n + 1 + 1 + 1 + 1 + 1) 1232 := Bx.after (by repeat (first | exact Bx.new rfl | refine Bx.old ?_)) k1 (by omega) (by omega) (by omega)
  have E1 : Ext H.n H h1 := Ext.of_keep (by repeat (first | exact Ext.refl _ _ | refine Ext.push _ ?_ (by (try simp only [n_push]); omega))) n1 k1 (by omega) (by omega) (by omega)
  clear n1 k1
  obtain ⟨t, ht⟩ : ∃ t, t = mix3 (a, b, w0) := ⟨_, rfl⟩
  rw [← ht] at A1 B1 W1
  simp only [core, Nat.reduceAdd, Nat.reduceSub, Nat.reduceMul, Nat.reduceLT, Nat.reduceEqDiff, reduceCtorEq, Nat.reduceLeDiff, Int.reduceLE, Int.reduceLT, Int.reduceToNat]
  refine (mix_x (x := (c, 231232, t.2.2)) C1 X1 W1 (by omega) (by omega) (by omega)).mono ?_
  rintro _ h2 ⟨C2, X2, W2, n2, k2⟩
  have A2 := A1.after k2 (by omega) (by omega) (by omega)
  have B2 := B1.after k2 (by omega) (by omega) (by omega)
  have Y2 := Y1.after k2 (by omega) (by omega) (by omega)
  have E2 := Ext.of_keep E1 n2 k2 (by omega) (by omega) (by omega)
  obtain ⟨u, hu⟩ : ∃ u, u = mix3 (c, 231232, t.2.2) := ⟨_, rfl⟩
  rw [← hu] at C2 X2 W2
  simp only [core, Nat.reduceAdd, Nat.reduceSub, Nat.reduceMul, Nat.reduceLT, Nat.reduceEqDiff, reduceCtorEq, Nat.reduceLeDiff, Int.reduceLE, Int.reduceLT, Int.reduceToNat]
  refine (mix_x (x := (1232, t.1, u.2.2)) Y2 A2 W2 (by omega) (by omega) (by omega)).mono ?_
  rintro _ h3 ⟨Y3, A3, W3, n3, k3⟩
  have B3 := B2.after k3 (by omega) (by omega) (by omega)
  have X3 := X2.after k3 (by omega) (by omega) (by omega)
  have C3 := C2.after k3 (by omega) (by omega) (by omega)
  have E3 := Ext.of_keep E2 n3 k3 (by omega) (by omega) (by omega)
  obtain ⟨v, hv⟩ : ∃ v, v = mix3 (1232, t.1, u.2.2) := ⟨_, rfl⟩
  rw [← hv] at Y3 A3 W3
  simp only [core, Nat.reduceAdd, Nat.reduceSub, Nat.reduceMul, Nat.reduceLT, Nat.reduceEqDiff, reduceCtorEq, Nat.reduceLeDiff, Int.reduceLE, Int.reduceLT, Int.reduceToNat]
  refine (mix_x (x := (t.2.1, u.2.1, v.2.2)) B3 X3 W3 (by omega) (by omega) (by omega)).mono ?_
  rintro _ h4 ⟨B4, X4, W4, n4, k4⟩
  have Y4 := Y3.after k4 (by omega) (by omega) (by omega)
  have C4 := C3.after k4 (by omega) (by omega) (by omega)
  have E4 := Ext.of_keep E3 n4 k4 (by omega) (by omega) (by omega)
  obtain ⟨z, hz⟩ : ∃ z, z = mix3 (t.2.1, u.2.1, v.2.2) := ⟨_, rfl⟩
  rw [← hz] at B4 X4 W4
  simp only [core, Nat.reduceAdd, Nat.reduceSub, Nat.reduceMul, Nat.reduceLT, Nat.reduceEqDiff, reduceCtorEq, Nat.reduceLeDiff, Int.reduceLE, Int.reduceLT, Int.reduceToNat]
  refine (mix_x (x := (v.1, u.1, z.2.2)) Y4 C4 W4 (by omega) (by omega) (by omega)).mono ?_
  rintro _ h5 ⟨Y5, C5, W5, n5, k5⟩
  have E5 := Ext.of_keep E4 n5 k5 (by omega) (by omega) (by omega)
  have L5 := W5.ld
  simp only [core, Nat.reduceAdd, Nat.reduceSub, Nat.reduceMul, Nat.reduceLT, Nat.reduceEqDiff, reduceCtorEq, Nat.reduceLeDiff, Int.reduceLE, Int.reduceLT, Int.reduceToNat, L5]
  refine ⟨E5, ?_⟩
  subst hz hv hu ht hw0
  rfl
def mixTabU : AV := .agg [.lit (.int .u64 13), .lit (.int .u64 8), .lit (.int .u64 13), .lit (.int .u64 12), .lit (.int .u64 16), .lit (.int .u64 5), .lit (.int .u64 3), .lit (.int .u64 10), .lit (.int .u64 15)]
theorem mixVU0 : pur Try.prog (Instr.index 222 (.agg #[.int .u64 13, .int .u64 8, .int .u64 13, .int .u64 12, .int .u64 16, .int .u64 5, .int .u64 3, .int .u64 10, .int .u64 15]) (.int .i64 0)) = some (.ok (.agg #[.int .u64 13, .int .u64 8, .int .u64 13])) := by kernel_rfl
theorem mixVU1 : pur Try.prog (Instr.index 222 (.agg #[.int .u64 13, .int .u64 8, .int .u64 13, .int .u64 12, .int .u64 16, .int .u64 5, .int .u64 3, .int .u64 10, .int .u64 15]) (.int .i64 1)) = some (.ok (.agg #[.int .u64 12, .int .u64 16, .int .u64 5])) := by kernel_rfl
theorem mixVU2 : pur Try.prog (Instr.index 222 (.agg #[.int .u64 13, .int .u64 8, .int .u64 13, .int .u64 12, .int .u64 16, .int .u64 5, .int .u64 3, .int .u64 10, .int .u64 15]) (.int .i64 2)) = some (.ok (.agg #[.int .u64 3, .int .u64 10, .int .u64 15])) := by kernel_rfl
section
variable {t : TM} {h : AH} {d : Option Tmp} {ty : TypeId} {ps : String} {af : Array Edge} {g : Option (Nat × Bool)}
theorem mixTabU0 {i j : Nat} (hx : t.get i = mixTabU) (hy : t.get j = .lit (.int .i64 0)) : aop Try.prog (tabOf Try.prog NT0) ⟨d, .index 222 (.tmp i) (.tmp j), ty, ps, af, g⟩ t h = some (.val (.agg [.lit (.int .u64 13), .lit (.int .u64 8), .lit (.int .u64 13)]), h) :=
  a_index_lit (by rw [hx]; rfl) (by rw [hy]; rfl) mixVU0 rfl
theorem mixTabU1 {i j : Nat} (hx : t.get i = mixTabU) (hy : t.get j = .lit (.int .i64 1)) : aop Try.prog (tabOf Try.prog NT0) ⟨d, .index 222 (.tmp i) (.tmp j), ty, ps, af, g⟩ t h = some (.val (.agg [.lit (.int .u64 12), .lit (.int .u64 16), .lit (.int .u64 5)]), h) :=
  a_index_lit (by rw [hx]; rfl) (by rw [hy]; rfl) mixVU1 rfl
theorem mixTabU2 {i j : Nat} (hx : t.get i = mixTabU) (hy : t.get j = .lit (.int .i64 2)) : aop Try.prog (tabOf Try.prog NT0) ⟨d, .index 222 (.tmp i) (.tmp j), ty, ps, af, g⟩ t h = some (.val (.agg [.lit (.int .u64 3), .lit (.int .u64 10), .lit (.int .u64 15)]), h) :=
  a_index_lit (by rw [hx]; rfl) (by rw [hy]; rfl) mixVU2 rfl
end
def trioV (x : I3) : AV := .agg [.lit (.int .u32 x.1), .lit (.int .u32 x.2.1), .lit (.int .u32 x.2.2)]
theorem mixRef_x {H : AH} (x : I3) : WC Try.prog (tabOf Try.prog NT0) S00 138 [.agg [.lit (.int .u32 x.1), .lit (.int .u32 x.2.1), .lit (.int .u32 x.2.2)]] H fun r h' => Ext H.n H h' ∧ r = trioV (mix3 x) := by
  refine WC_fn Try.func138 rfl rfl ?_
  simp only [core, Nat.reduceAdd, Nat.reduceSub, Nat.reduceMul, Nat.reduceLT, Nat.reduceEqDiff, reduceCtorEq, Nat.reduceLeDiff, Int.reduceLE, Int.reduceLT, Int.reduceToNat, Try.ntmps138]
  rw [WB_regionD [0, 1, 2, 3, 4, 5, 6, 7, 8] 1204932154128817075520000 (by kernel_rfl)]
  repeat ((with_reducible refine WDM_cons ?_; simp only [dw1]; try simp only [dw2, Nat.reduceAdd, Nat.reduceMul, Nat.reduceShiftRight, Nat.reduceMod, Nat.reduceEqDiff]); simp only [core, Nat.reduceAdd, Nat.reduceSub, Nat.reduceMul, Nat.reduceLT, Nat.reduceEqDiff, reduceCtorEq, Nat.reduceLeDiff, Int.reduceLE, Int.reduceLT, Int.reduceToNat, cored])
  refine WB_for 3 (fun i t h => (Ext H.n H h ∧ h.at (H.n + 1) = some (.cells [.lit (.int .u32 0), .lit (.int .u32 0), .lit (.int .u32 0)] 194)) ∧ t.n = 56 ∧ t.get 2 = .ptr (H.n + 1) 0 ∧ t.get 3 = .lit (.int .u32 (mixN i x).1) ∧ t.get 4 = .lit (.int .u32 (mixN i x).2.1) ∧ t.get 5 = .lit (.int .u32 (mixN i x).2.2) ∧ t.get 17 = mixTabU ∧ t.get 18 = .lit (.int .i64 i)) ?_ ?_ _ _ ?_
  · rintro i t h hi hc ⟨⟨he, ha⟩, hn, g2, g3, g4, g5, g17, g18⟩ ih
    have hi3 : i = 0 ∨ i = 1 ∨ i = 2 := by omega
    have ha' : ∀ x, (h.push x).at (H.n + 1) = some (.cells [.lit (.int .u32 0), .lit (.int .u32 0), .lit (.int .u32 0)] 194) := fun x => (at_push_lt _ (at_lt ha)).trans ha
    rcases hi3 with rfl | rfl | rfl
    · have g18 : t.get 18 = .lit (.int .i64 0) := g18
      have hw : IntKind.i64.wrap ((0 : Int) + 1) = ((0 + 1 : Nat) : Int) := by decide
      have hc : ((0 : Int) < 3) = True := by decide
      simp only [core, Nat.reduceAdd, Nat.reduceSub, Nat.reduceMul, Nat.reduceLT, Nat.reduceEqDiff, reduceCtorEq, Nat.reduceLeDiff, Int.reduceLE, Int.reduceLT, Int.reduceToNat, hn, g2, g3, g4, g5, g17, g18, hc, hw, mixTabU0]
      refine ih _ _ ?_
      simp only [core, Nat.reduceAdd, Nat.reduceSub, Nat.reduceMul, Nat.reduceLT, Nat.reduceEqDiff, reduceCtorEq, Nat.reduceLeDiff, Int.reduceLE, Int.reduceLT, Int.reduceToNat, hn, g2, g3, g4, g5, g17, g18]
      refine ⟨⟨he.push _ he.1, ha' _⟩, ?_⟩
      (repeat' apply And.intro) <;> first | rfl | trivial
    · have g18 : t.get 18 = .lit (.int .i64 1) := g18
      have hw : IntKind.i64.wrap ((1 : Int) + 1) = ((1 + 1 : Nat) : Int) := by decide
      have hc : ((1 : Int) < 3) = True := by decide
      simp only [core, Nat.reduceAdd, Nat.reduceSub, Nat.reduceMul, Nat.reduceLT, Nat.reduceEqDiff, reduceCtorEq, Nat.reduceLeDiff, Int.reduceLE, Int.reduceLT, Int.reduceToNat, hn, g2, g3, g4, g5, g17, g18, hc, hw, mixTabU1]
      refine ih _ _ ?_
      simp only [core, Nat.reduceAdd, Nat.reduceSub, Nat.reduceMul, Nat.reduceLT, Nat.reduceEqDiff, reduceCtorEq, Nat.reduceLeDiff, Int.reduceLE, Int.reduceLT, Int.reduceToNat, hn, g2, g3, g4, g5, g17, g18]
      refine ⟨⟨he.push _ he.1, ha' _⟩, ?_⟩
      (repeat' apply And.intro) <;> first | rfl | trivial
    · have g18 : t.get 18 = .lit (.int .i64 2) := g18
      have hw : IntKind.i64.wrap ((2 : Int) + 1) = ((2 + 1 : Nat) : Int) := by decide
      have hc : ((2 : Int) < 3) = True := by decide
      simp only [core, Nat.reduceAdd, Nat.reduceSub, Nat.reduceMul, Nat.reduceLT, Nat.reduceEqDiff, reduceCtorEq, Nat.reduceLeDiff, Int.reduceLE, Int.reduceLT, Int.reduceToNat, hn, g2, g3, g4, g5, g17, g18, hc, hw, mixTabU2]
      refine ih _ _ ?_
      simp only [core, Nat.reduceAdd, Nat.reduceSub, Nat.reduceMul, Nat.reduceLT, Nat.reduceEqDiff, reduceCtorEq, Nat.reduceLeDiff, Int.reduceLE, Int.reduceLT, Int.reduceToNat, hn, g2, g3, g4, g5, g17, g18]
      refine ⟨⟨he.push _ he.1, ha' _⟩, ?_⟩
      (repeat' apply And.intro) <;> first | rfl | trivial
  · rintro t h hc ⟨⟨he, ha⟩, hn, g2, g3, g4, g5, g17, g18⟩
    have g18 : t.get 18 = .lit (.int .i64 3) := g18
    have hc : ((3 : Int) < 3) = False := by decide
    have hlt : H.n + 1 < h.n := at_lt ha
    simp only [core, Nat.reduceAdd, Nat.reduceSub, Nat.reduceMul, Nat.reduceLT, Nat.reduceEqDiff, reduceCtorEq, Nat.reduceLeDiff, Int.reduceLE, Int.reduceLT, Int.reduceToNat, hn, g2, g3, g4, g5, g17, g18, hc, ha, hlt]
    exact ⟨he.put _ (by omega), rfl⟩
  · simp only [core, Nat.reduceAdd, Nat.reduceSub, Nat.reduceMul, Nat.reduceLT, Nat.reduceEqDiff, reduceCtorEq, Nat.reduceLeDiff, Int.reduceLE, Int.reduceLT, Int.reduceToNat]
    refine ⟨((Ext.refl H.n H).push _ (Nat.le_refl _)).push _ (by rw [n_push]; omega), ?_⟩
    (repeat' apply And.intro) <;> first | rfl | trivial
theorem Tri.keep {h h' : AH} {p : Nat} {x : AB} (he : Ext h.n h h') (hp : h.at p = some x) : h'.at p = some x := (he.2 p (at_lt hp)).trans hp
theorem hash2Ref_x {H : AH} (a b : Int) : WC Try.prog (tabOf Try.prog NT0) S00 102 [.lit (.int .u32 a), .lit (.int .u32 b)] H fun r h' => Ext H.n H h' ∧ r = .lit (.int .u32 (hash2F a b)) := by
  refine WC_fn Try.func102 rfl rfl ?_
  simp only [core, Nat.reduceAdd, Nat.reduceSub, Nat.reduceMul, Nat.reduceLT, Nat.reduceEqDiff, reduceCtorEq, Nat.reduceLeDiff, Int.reduceLE, Int.reduceLT, Int.reduceToNat, Try.ntmps102]
  refine (mixRef_x (a, b, xorI .u32 (xorI .u32 1315423911 a) b)).mono ?_
  rintro _ h1 ⟨e1, rfl⟩
  obtain ⟨t, ht⟩ : ∃ t, t = mix3 (a, b, xorI .u32 (xorI .u32 1315423911 a) b) := ⟨_, rfl⟩
  rw [← ht]
  unfold trioV
  simp only [core, Nat.reduceAdd, Nat.reduceSub, Nat.reduceMul, Nat.reduceLT, Nat.reduceEqDiff, reduceCtorEq, Nat.reduceLeDiff, Int.reduceLE, Int.reduceLT, Int.reduceToNat]
  refine (mixRef_x (231232, t.1, t.2.2)).mono ?_
  rintro _ h2 ⟨e2, rfl⟩
  obtain ⟨u, hu⟩ : ∃ u, u = mix3 (231232, t.1, t.2.2) := ⟨_, rfl⟩
  rw [← hu]
  unfold trioV
  have T2 := Tri.keep e2 (at_push_n h1 _)
  have LT2 := fun e off => ld_at (T := tabOf Try.prog NT0) T2 e off
  have lt2 : h1.n < h2.n := at_lt T2
  simp only [core, Nat.reduceAdd, Nat.reduceSub, Nat.reduceMul, Nat.reduceLT, Nat.reduceEqDiff, reduceCtorEq, Nat.reduceLeDiff, Int.reduceLE, Int.reduceLT, Int.reduceToNat, LT2, lt2]
  refine (mixRef_x (t.2.1, 1232, u.2.2)).mono ?_
  rintro _ h3 ⟨e3, rfl⟩
  unfold trioV
  simp only [core, Nat.reduceAdd, Nat.reduceSub, Nat.reduceMul, Nat.reduceLT, Nat.reduceEqDiff, reduceCtorEq, Nat.reduceLeDiff, Int.reduceLE, Int.reduceLT, Int.reduceToNat]
  refine ⟨(e1.trans ((Ext.push _ (Ext.refl _ _) e1.1).trans (e2.mono (by rw [n_push]; have := e1.1; omega)))).trans (((Ext.refl H.n h2).push _ (by have := e1.1; omega)).trans (e3.mono (by rw [n_push]; have := e1.1; omega))), ?_⟩
  subst hu ht
  rfl
theorem hash3Ref_x {H : AH} (a b c : Int) : WC Try.prog (tabOf Try.prog NT0) S00 185 [.lit (.int .u32 a), .lit (.int .u32 b), .lit (.int .u32 c)] H fun r h' => Ext H.n H h' ∧ r = .lit (.int .u32 (hash3F a b c)) := by
  refine WC_fn Try.func185 rfl rfl ?_
  simp only [core, Nat.reduceAdd, Nat.reduceSub, Nat.reduceMul, Nat.reduceLT, Nat.reduceEqDiff, reduceCtorEq, Nat.reduceLeDiff, Int.reduceLE, Int.reduceLT, Int.reduceToNat, Try.ntmps185]
  obtain ⟨w0, hw0⟩ : ∃ w, w = xorI .u32 (xorI .u32 (xorI .u32 1315423911 a) b) c := ⟨_, rfl⟩
  rw [← hw0]
  refine (mixRef_x (a, b, w0)).mono ?_
  rintro _ h1 ⟨e1, rfl⟩
  obtain ⟨t, ht⟩ : ∃ t, t = mix3 (a, b, w0) := ⟨_, rfl⟩
  rw [← ht]
  unfold trioV
  simp only [core, Nat.reduceAdd, Nat.reduceSub, Nat.reduceMul, Nat.reduceLT, Nat.reduceEqDiff, reduceCtorEq, Nat.reduceLeDiff, Int.reduceLE, Int.reduceLT, Int.reduceToNat]
  refine (mixRef_x (c, 231232, t.2.2)).mono ?_
  rintro _ h2 ⟨e2, rfl⟩
  obtain ⟨u, hu⟩ : ∃ u, u = mix3 (c, 231232, t.2.2) := ⟨_, rfl⟩
  rw [← hu]
  unfold trioV
  have T2 := Tri.keep e2 (at_push_n h1 _)
  have LT2 := fun e off => ld_at (T := tabOf Try.prog NT0) T2 e off
  have lt2 : h1.n < h2.n := at_lt T2
  have E2 : Ext H.n H h2 := e1.trans ((Ext.push _ (Ext.refl _ _) e1.1).trans (e2.mono (by rw [n_push]; have := e1.1; omega)))
  simp only [core, Nat.reduceAdd, Nat.reduceSub, Nat.reduceMul, Nat.reduceLT, Nat.reduceEqDiff, reduceCtorEq, Nat.reduceLeDiff, Int.reduceLE, Int.reduceLT, Int.reduceToNat, LT2, lt2]
  refine (mixRef_x (1232, t.1, u.2.2)).mono ?_
  rintro _ h3 ⟨e3, rfl⟩
  obtain ⟨v, hv⟩ : ∃ v, v = mix3 (1232, t.1, u.2.2) := ⟨_, rfl⟩
  rw [← hv]
  unfold trioV
  have T3 := Tri.keep e3 ((at_push_lt _ lt2).trans T2)
  have U3 := Tri.keep e3 (at_push_n h2 _)
  have LT3 := fun e off => ld_at (T := tabOf Try.prog NT0) T3 e off
  have LU3 := fun e off => ld_at (T := tabOf Try.prog NT0) U3 e off
  have lt3 : h1.n < h3.n := at_lt T3
  have lu3 : h2.n < h3.n := at_lt U3
  have E3 : Ext H.n H h3 := E2.trans ((Ext.push _ (Ext.refl _ _) E2.1).trans (e3.mono (by rw [n_push]; have := E2.1; omega)))
  simp only [core, Nat.reduceAdd, Nat.reduceSub, Nat.reduceMul, Nat.reduceLT, Nat.reduceEqDiff, reduceCtorEq, Nat.reduceLeDiff, Int.reduceLE, Int.reduceLT, Int.reduceToNat, LT3, LU3, lt3, lu3]
  refine (mixRef_x (t.2.1, u.2.1, v.2.2)).mono ?_
  rintro _ h4 ⟨e4, rfl⟩
  obtain ⟨z, hz⟩ : ∃ z, z = mix3 (t.2.1, u.2.1, v.2.2) := ⟨_, rfl⟩
  rw [← hz]
  unfold trioV
  have U4 := Tri.keep e4 ((at_push_lt _ lu3).trans U3)
  have V4 := Tri.keep e4 (at_push_n h3 _)
  have LU4 := fun e off => ld_at (T := tabOf Try.prog NT0) U4 e off
  have LV4 := fun e off => ld_at (T := tabOf Try.prog NT0) V4 e off
  have lu4 : h2.n < h4.n := at_lt U4
  have lv4 : h3.n < h4.n := at_lt V4
  have E4 : Ext H.n H h4 := E3.trans ((Ext.push _ (Ext.refl _ _) E3.1).trans (e4.mono (by rw [n_push]; have := E3.1; omega)))
  simp only [core, Nat.reduceAdd, Nat.reduceSub, Nat.reduceMul, Nat.reduceLT, Nat.reduceEqDiff, reduceCtorEq, Nat.reduceLeDiff, Int.reduceLE, Int.reduceLT, Int.reduceToNat, LU4, LV4, lu4, lv4]
  refine (mixRef_x (v.1, u.1, z.2.2)).mono ?_
  rintro _ h5 ⟨e5, rfl⟩
  unfold trioV
  simp only [core, Nat.reduceAdd, Nat.reduceSub, Nat.reduceMul, Nat.reduceLT, Nat.reduceEqDiff, reduceCtorEq, Nat.reduceLeDiff, Int.reduceLE, Int.reduceLT, Int.reduceToNat]
  refine ⟨E4.trans ((Ext.push _ (Ext.refl _ _) E4.1).trans (e5.mono (by rw [n_push]; have := E4.1; omega))), ?_⟩
  subst hz hv hu ht hw0
  rfl
end Go.Proofs.Ytkgbeihcepociaa.Ex
end

section

set_option linter.unusedSimpArgs false
set_option linter.unusedVariables false
set_option maxRecDepth 10000
set_option maxHeartbeats 4000000
namespace Go.Proofs.Ytkgbeihcepociaa.Ex
open Go
def len8 (b : Nat) : Nat := if b = 0 then 0 else Nat.log2 b + 1
def tabOk (s : ByteArray) : Bool := (List.range 256).all (fun b => (s[b]?).map (·.toNat) == some (len8 b))
theorem len8_at {s : ByteArray} (hs : tabOk s = true) {b : Nat} (hb : b < 256) : strAt s (b : Int) = some (len8 b) := by
  unfold strAt
  rw [if_pos (by omega), Int.toNat_natCast]
  have := List.all_eq_true.1 hs b (List.mem_range.2 hb)
  simpa using this
theorem shr_nat (x k : Nat) (hk : k ≤ 64) : shrI .u64 (x : Int) (k : Int) = ((x / 2 ^ k : Nat) : Int) := by
  unfold shrI
  have : min (Int.toNat (k : Int)) (IntKind.bits .u64) = k := by simp [IntKind.bits]; omega
  rw [this]
  have h2 : ((2 ^ k : Nat) : Int) = (2 : Int) ^ k := by exact Int.natCast_pow 2 k
  rw [← h2, Int.fdiv_eq_ediv_of_nonneg _ (Int.natCast_nonneg _)]
  rfl
theorem wrap_u8 {n : Nat} (h : n < 256) : IntKind.u8.wrap (n : Int) = (n : Int) := by
  unfold IntKind.wrap
  simp [IntKind.bits, IntKind.signed]
  omega
theorem log2_div (x : Nat) (h : 256 ≤ x) : Nat.log2 x = Nat.log2 (x / 256) + 8 := by
  have e : ∀ k y, 2 ^ k ≤ y → Nat.log2 y = Nat.log2 (y / 2 ^ k) + k := by
    intro k
    induction k with
    | zero => intro y _; simp
    | succ k ih =>
      intro y hy
      have h2 : 2 ≤ y := by have := Nat.one_le_two_pow (n := k); rw [Nat.pow_succ] at hy; omega
      rw [Nat.log2_def y, if_pos h2, ih (y / 2) (by rw [Nat.pow_succ] at hy; omega), Nat.div_div_eq_div_mul, Nat.pow_succ, Nat.mul_comm 2]
      omega
  exact e 8 x h
theorem len64_x {H : AH} (x : Nat) (h1 : 1 ≤ x) (h2 : x ≤ 65536) : WC Try.prog (tabOf Try.prog NT0) S00 161 [.lit (.int .u64 x)] H fun r h' => h' = H ∧ r = .lit (.int .i64 ((Nat.log2 x + 1 : Nat))) := by
  refine WC_fn Try.func161 rfl rfl ?_
  have c1 : ¬ (4294967296 : Int) ≤ (x : Int) := by omega
  by_cases h3 : x = 65536
  · subst h3
    have c2 : (65536 : Int) ≤ ((65536 : Nat) : Int) := by omega
    have e1 : shrI .u64 ((65536 : Nat) : Int) 16 = 1 := by decide
    have e2 : IntKind.i64.wrap (0 + 16) = 16 := by decide
    have e3 : IntKind.u8.wrap 1 = 1 := by decide
    have e4 : IntKind.i64.wrap (16 + 1) = 17 := by decide
    have c3 : ¬ (256 : Int) ≤ 1 := by omega
    have c4 : ∀ s, tabOk s = true → strAt s 1 = some 1 := fun s hs => len8_at hs (b := 1) (by omega)
    simp only [core, Nat.reduceAdd, Nat.reduceSub, Nat.reduceMul, Nat.reduceLT, Nat.reduceEqDiff, reduceCtorEq, Nat.reduceLeDiff, Int.reduceLE, Int.reduceLT, Int.reduceToNat, Try.ntmps161, c1, c2, e1, e2, e3, e4, c3]
    rw [c4 _ (by kernel_rfl)]
    simp only [core, Nat.reduceAdd, Nat.reduceSub, Nat.reduceMul, Nat.reduceLT, Nat.reduceEqDiff, reduceCtorEq, Nat.reduceLeDiff, Int.reduceLE, Int.reduceLT, Int.reduceToNat, e4]
    rfl
  · have c2 : ¬ (65536 : Int) ≤ (x : Int) := by omega
    by_cases h4 : 256 ≤ x
    · have c3 : (256 : Int) ≤ (x : Int) := by omega
      have e1 : shrI .u64 (x : Int) 8 = ((x / 256 : Nat) : Int) := shr_nat x 8 (by omega)
      have e2 : IntKind.i64.wrap (0 + 8) = 8 := by decide
      have e3 : IntKind.u8.wrap ((x / 256 : Nat) : Int) = ((x / 256 : Nat) : Int) := wrap_u8 (by omega)
      have c4 : ∀ s, tabOk s = true → strAt s ((x / 256 : Nat) : Int) = some (len8 (x / 256)) := fun s hs => len8_at hs (by omega)
      simp only [core, Nat.reduceAdd, Nat.reduceSub, Nat.reduceMul, Nat.reduceLT, Nat.reduceEqDiff, reduceCtorEq, Nat.reduceLeDiff, Int.reduceLE, Int.reduceLT, Int.reduceToNat, Try.ntmps161, c1, c2, e1, e2, e3, c3]
      rw [c4 _ (by kernel_rfl)]
      have h5 : len8 (x / 256) = Nat.log2 (x / 256) + 1 := by unfold len8; rw [if_neg (by omega)]
      have h6 : Nat.log2 (x / 256) < 8 := (Nat.log2_lt (by omega)).2 (by omega)
      have e4 : IntKind.i64.wrap ((len8 (x / 256) : Nat) : Int) = ((Nat.log2 (x / 256) + 1 : Nat) : Int) := by rw [h5]; exact wrap_in (by omega) (by omega)
      have e5 : IntKind.i64.wrap (8 + ((Nat.log2 (x / 256) + 1 : Nat) : Int)) = ((Nat.log2 x + 1 : Nat) : Int) := by rw [log2_div x h4]; exact (wrap_in (by omega) (by omega)).trans (by omega)
      simp only [core, Nat.reduceAdd, Nat.reduceSub, Nat.reduceMul, Nat.reduceLT, Nat.reduceEqDiff, reduceCtorEq, Nat.reduceLeDiff, Int.reduceLE, Int.reduceLT, Int.reduceToNat, e4, e5]
    · have c3 : ¬ (256 : Int) ≤ (x : Int) := by omega
      have e3 : IntKind.u8.wrap (x : Int) = (x : Int) := wrap_u8 (by omega)
      have c4 : ∀ s, tabOk s = true → strAt s (x : Int) = some (len8 x) := fun s hs => len8_at hs (by omega)
      simp only [core, Nat.reduceAdd, Nat.reduceSub, Nat.reduceMul, Nat.reduceLT, Nat.reduceEqDiff, reduceCtorEq, Nat.reduceLeDiff, Int.reduceLE, Int.reduceLT, Int.reduceToNat, Try.ntmps161, c1, c2, e3, c3]
      rw [c4 _ (by kernel_rfl)]
      have h5 : len8 x = Nat.log2 x + 1 := by unfold len8; rw [if_neg (by omega)]
      have h6 : Nat.log2 x < 8 := (Nat.log2_lt (by omega)).2 (by omega)
      have e4 : IntKind.i64.wrap ((len8 x : Nat) : Int) = ((Nat.log2 x + 1 : Nat) : Int) := by rw [h5]; exact wrap_in (by omega) (by omega)
      have e5 : IntKind.i64.wrap (0 + ((Nat.log2 x + 1 : Nat) : Int)) = ((Nat.log2 x + 1 : Nat) : Int) := (wrap_in (by omega) (by omega)).trans (by omega)
      simp only [core, Nat.reduceAdd, Nat.reduceSub, Nat.reduceMul, Nat.reduceLT, Nat.reduceEqDiff, reduceCtorEq, Nat.reduceLeDiff, Int.reduceLE, Int.reduceLT, Int.reduceToNat, e4, e5]
def lnS (k : Int) (x : Int × Int) : Int × Int :=
  let y := shrI .u64 (IntKind.u64.wrap (x.1 * x.1)) 31
  if 4294967296 ≤ y then (shrI .u64 y 1, IntKind.i64.wrap (x.2 + shlI .i64 1 k)) else (y, x.2)
def lnL : Nat → Int × Int → Int × Int
  | 0, x => x
  | n + 1, x => lnL n (lnS n x)
def clampU (u : Int) : Nat := (if u < 0 then 0 else if 65535 < u then 65535 else u).toNat + 1
def lnF (u : Int) : Int := (lnL 44 (shlI .u64 (clampU u) (IntKind.i64.wrap (31 - (Nat.log2 (clampU u) : Int))), shlI .i64 (Nat.log2 (clampU u)) 44)).2
theorem clampU_le (u : Int) : 1 ≤ clampU u ∧ clampU u ≤ 65536 := by unfold clampU; split <;> (try split) <;> omega
theorem ln_x {H : AH} (u : Int) : WC Try.prog (tabOf Try.prog NT0) S00 193 [.lit (.int .i64 u)] H fun r h' => h' = H ∧ r = .lit (.int .i64 (lnF u)) := by
  refine WC_fn Try.func193 rfl rfl ?_
  obtain ⟨X, hX⟩ : ∃ X, X = clampU u := ⟨_, rfl⟩
  obtain ⟨x1, x2⟩ := clampU_le u
  rw [← hX] at x1 x2
  have hcl : ∀ v, v = (if u < 0 then 0 else u) → IntKind.u64.wrap (IntKind.u64.wrap (if 65535 < v then 65535 else v) + 1) = (X : Int) := fun v hv => by
    rw [hX, hv]
    unfold clampU
    by_cases h1 : u < 0
    · rw [if_pos h1, if_neg (by omega), if_pos h1]; decide
    · rw [if_neg h1, if_neg h1]
      by_cases h2 : 65535 < u
      · rw [if_pos h2]; decide
      · rw [if_neg h2]
        rw [wrap_u64 (n := u) (by omega) (by omega), wrap_u64 (by omega) (by omega)]
        omega
  have hcl := hcl _ rfl
  simp only [corem, WB_cond_s, put, ldL, WB_label, List.nil_append, List.drop_zero, List.take_zero, Nat.reduceAdd, Nat.reduceSub, Nat.reduceMul, Nat.reduceLT, Nat.reduceEqDiff, reduceCtorEq, Nat.reduceLeDiff, Int.reduceLE, Int.reduceLT, Int.reduceToNat, Try.ntmps193, -WB_label, hcl]
  refine (len64_x X x1 x2).mono ?_
  rintro _ h ⟨rfl, rfl⟩
  have hl : Nat.log2 X < 17 := (Nat.log2_lt (by omega)).2 (by omega)
  have hw1 : IntKind.i64.wrap (((Nat.log2 X + 1 : Nat) : Int) - 1) = (Nat.log2 X : Int) := (wrap_in (by omega) (by omega)).trans (by omega)
  have hw2 : (0 : Int) ≤ IntKind.i64.wrap (31 - (Nat.log2 X : Int)) := by rw [wrap_in (by omega) (by omega)]; omega
  simp only [corem, WB_cond_s, put, ldL, WB_label, List.nil_append, List.drop_zero, List.take_zero, Nat.reduceAdd, Nat.reduceSub, Nat.reduceMul, Nat.reduceLT, Nat.reduceEqDiff, reduceCtorEq, Nat.reduceLeDiff, Int.reduceLE, Int.reduceLT, Int.reduceToNat, Try.ntmps193, -WB_label, hw1, hw2]
  refine WB_lab rfl (fun t h => by simp only [WB_seq, WB_label, WB_skip]) (fun n t h' => ∃ y o : Int, n ≤ 43 ∧ h' = h ∧ (lnL (n + 1) (y, o)).2 = lnF u ∧ t.n = 39 ∧ t.get 5 = .lit (.int .u64 y) ∧ t.get 6 = .lit (.int .i64 o) ∧ t.get 7 = .lit (.int .i64 n)) 43 ?_ _ _ ?_
  · rintro n t h' ⟨y, o, hn43, rfl, hL, hn, g5, g6, g7⟩ ih
    have hn0 : (0 : Int) ≤ (n : Int) := by omega
    have key : lnL (n + 1) (y, o) = lnL n (lnS n (y, o)) := rfl
    rw [key] at hL
    unfold lnS at hL
    simp only at hL
    cases n with
    | zero =>
      have hw3 : IntKind.i64.wrap (((0 : Nat) : Int) - 1) = -1 := by decide
      simp only [corem, WB_cond_s, put, ldL, WB_label, List.nil_append, List.drop_zero, List.take_zero, Nat.reduceAdd, Nat.reduceSub, Nat.reduceMul, Nat.reduceLT, Nat.reduceEqDiff, reduceCtorEq, Nat.reduceLeDiff, Int.reduceLE, Int.reduceLT, Int.reduceToNat, hn, g5, g6, g7, -WB_label, hw3, hn0]
      refine ⟨fun hq => ?_, fun hq => ?_⟩
      · rw [if_pos (by simpa using hq)] at hL
        rw [← hL]; rfl
      · rw [if_neg (by simpa using hq)] at hL
        rw [← hL]; rfl
    | succ m =>
      have hw3 : IntKind.i64.wrap (((m + 1 : Nat) : Int) - 1) = (m : Int) := (wrap_in (by omega) (by omega)).trans (by omega)
      have hm : (0 : Int) ≤ (m : Int) := by omega
      have hd : decide ((0 : Int) ≤ (m : Int)) = true := by simp
      simp only [corem, WB_cond_s, put, ldL, WB_label, List.nil_append, List.drop_zero, List.take_zero, Nat.reduceAdd, Nat.reduceSub, Nat.reduceMul, Nat.reduceLT, Nat.reduceEqDiff, reduceCtorEq, Nat.reduceLeDiff, Int.reduceLE, Int.reduceLT, Int.reduceToNat, hn, g5, g6, g7, -WB_label, hw3, hn0, hm]
      refine ⟨fun hq => ?_, fun hq => ?_⟩
      · refine WB_goto ?_
        refine ih m _ _ (by omega) ⟨shrI .u64 (shrI .u64 (IntKind.u64.wrap (y * y)) 31) 1, IntKind.i64.wrap (o + shlI .i64 1 ((m + 1 : Nat) : Int)), by omega, rfl, ?_, ?_⟩
        rotate_left
        · simp only [core, Nat.reduceAdd, Nat.reduceSub, Nat.reduceMul, Nat.reduceLT, Nat.reduceEqDiff, reduceCtorEq, Nat.reduceLeDiff, Int.reduceLE, Int.reduceLT, Int.reduceToNat, hn, g5, g6, g7]
        · rw [if_pos (by simpa using hq)] at hL
          exact hL
      · refine WB_goto ?_
        refine ih m _ _ (by omega) ⟨shrI .u64 (IntKind.u64.wrap (y * y)) 31, o, by omega, rfl, ?_, ?_⟩
        rotate_left
        · simp only [core, Nat.reduceAdd, Nat.reduceSub, Nat.reduceMul, Nat.reduceLT, Nat.reduceEqDiff, reduceCtorEq, Nat.reduceLeDiff, Int.reduceLE, Int.reduceLT, Int.reduceToNat, hn, g5, g6, g7]
        · rw [if_neg (by simpa using hq)] at hL
          exact hL
  · refine ⟨shlI .u64 X (IntKind.i64.wrap (31 - (Nat.log2 X : Int))), shlI .i64 (Nat.log2 X) 44, Nat.le_refl _, rfl, ?_, ?_⟩
    · unfold lnF
      rw [← hX]
    · simp only [core, Nat.reduceAdd, Nat.reduceSub, Nat.reduceMul, Nat.reduceLT, Nat.reduceEqDiff, reduceCtorEq, Nat.reduceLeDiff, Int.reduceLE, Int.reduceLT, Int.reduceToNat]
      rfl
theorem shl_nat (x k : Nat) (hk : k ≤ 64) (e : Int) (he : e = (k : Int)) : shlI .u64 (x : Int) e = IntKind.u64.wrap ((x * 2 ^ k : Nat) : Int) := by
  subst he
  unfold shlI
  have : min (Int.toNat (k : Int)) (IntKind.bits .u64) = k := by simp [IntKind.bits]; omega
  rw [this]
  have h2 : ((2 ^ k : Nat) : Int) = (2 : Int) ^ k := by exact Int.natCast_pow 2 k
  rw [← h2]
  rfl
theorem log2_top {x e : Nat} (h1 : 1 ≤ x) (he : e ≤ Nat.log2 x) : (0 < x / 2 ^ (e + 1)) ↔ e < Nat.log2 x := by
  rw [Nat.div_pos_iff]
  constructor
  · rintro ⟨_, h⟩
    exact (Nat.le_log2 (by omega)).2 h
  · intro h
    exact ⟨Nat.two_pow_pos _, (Nat.le_log2 (by omega)).1 h⟩
theorem lnRef_x {H : AH} (u : Int) : WC Try.prog (tabOf Try.prog NT0) S00 192 [.lit (.int .i64 u)] H fun r h' => h' = H ∧ r = .lit (.int .i64 (lnF u)) := by
  refine WC_fn Try.func192 rfl rfl ?_
  obtain ⟨X, hX⟩ : ∃ X, X = clampU u := ⟨_, rfl⟩
  obtain ⟨x1, x2⟩ := clampU_le u
  rw [← hX] at x1 x2
  have hl : Nat.log2 X < 17 := (Nat.log2_lt (by omega)).2 (by omega)
  simp only [corem, WB_cond_s, put, ldL, WB_label, List.nil_append, List.drop_zero, List.take_zero, Nat.reduceAdd, Nat.reduceSub, Nat.reduceMul, Nat.reduceLT, Nat.reduceEqDiff, reduceCtorEq, Nat.reduceLeDiff, Int.reduceLE, Int.reduceLT, Int.reduceToNat, Try.ntmps192, -WB_cond_s]
  refine WB_cut (fun t h => H = h ∧ t.n = 48 ∧ t.get 0 = .lit (.int .i64 (if u < 0 then 0 else u))) (fun k' K' hk => ?_) ?_
  · rw [WB_cond_s]
    simp only [core, Nat.reduceAdd, Nat.reduceSub, Nat.reduceMul, Nat.reduceLT, Nat.reduceEqDiff, reduceCtorEq, Nat.reduceLeDiff, Int.reduceLE, Int.reduceLT, Int.reduceToNat]
    refine ⟨fun hq => hk _ _ ⟨rfl, ?_⟩, fun hq => hk _ _ ⟨rfl, ?_⟩⟩
    · simp only [core, Nat.reduceAdd, Nat.reduceSub, Nat.reduceMul, Nat.reduceLT, Nat.reduceEqDiff, reduceCtorEq, Nat.reduceLeDiff, Int.reduceLE, Int.reduceLT, Int.reduceToNat]
      rw [if_pos (by simpa using hq)]
    · simp only [core, Nat.reduceAdd, Nat.reduceSub, Nat.reduceMul, Nat.reduceLT, Nat.reduceEqDiff, reduceCtorEq, Nat.reduceLeDiff, Int.reduceLE, Int.reduceLT, Int.reduceToNat]
      rw [if_neg (by simpa using hq)]
  rintro t h ⟨rfl, hn, g0⟩
  obtain ⟨v, hv⟩ : ∃ v, v = (if u < 0 then 0 else u) := ⟨_, rfl⟩
  rw [← hv] at g0
  simp only [corem, WB_cond_s, put, ldL, WB_label, List.nil_append, List.drop_zero, List.take_zero, Nat.reduceAdd, Nat.reduceSub, Nat.reduceMul, Nat.reduceLT, Nat.reduceEqDiff, reduceCtorEq, Nat.reduceLeDiff, Int.reduceLE, Int.reduceLT, Int.reduceToNat, hn, g0, -WB_cond_s]
  refine WB_cut (fun t h => H = h ∧ t.n = 48 ∧ t.get 0 = .lit (.int .i64 ((X : Int) - 1))) (fun k' K' hk => ?_) ?_
  · rw [WB_cond_s]
    simp only [core, Nat.reduceAdd, Nat.reduceSub, Nat.reduceMul, Nat.reduceLT, Nat.reduceEqDiff, reduceCtorEq, Nat.reduceLeDiff, Int.reduceLE, Int.reduceLT, Int.reduceToNat, hn, g0]
    refine ⟨fun hq => hk _ _ ⟨rfl, ?_⟩, fun hq => hk _ _ ⟨rfl, ?_⟩⟩
    · simp only [core, Nat.reduceAdd, Nat.reduceSub, Nat.reduceMul, Nat.reduceLT, Nat.reduceEqDiff, reduceCtorEq, Nat.reduceLeDiff, Int.reduceLE, Int.reduceLT, Int.reduceToNat, hn, g0]
      have hq : 65535 < v := by simpa using hq
      have : (X : Int) = 65536 := by
        rw [hX]; unfold clampU
        split at hv
        · omega
        · subst hv; rw [if_neg (by omega), if_pos hq]; rfl
      rw [this]
      rfl
    · simp only [core, Nat.reduceAdd, Nat.reduceSub, Nat.reduceMul, Nat.reduceLT, Nat.reduceEqDiff, reduceCtorEq, Nat.reduceLeDiff, Int.reduceLE, Int.reduceLT, Int.reduceToNat, hn, g0]
      have hq : ¬ 65535 < v := by simpa using hq
      have : (X : Int) - 1 = v := by
        rw [hX]; unfold clampU
        split at hv
        · rename_i h0; rw [if_pos h0]; subst hv; rfl
        · rename_i h0; subst hv; rw [if_neg h0, if_neg hq]; omega
      rw [this]
  rintro t h ⟨rfl, hn, g0⟩
  have e1 : IntKind.u64.wrap (IntKind.u64.wrap ((X : Int) - 1) + 1) = (X : Int) := by
    rw [wrap_u64 (n := (X : Int) - 1) (by omega) (by omega), wrap_u64 (by omega) (by omega)]; omega
  simp only [core, Nat.reduceAdd, Nat.reduceSub, Nat.reduceMul, Nat.reduceLT, Nat.reduceEqDiff, reduceCtorEq, Nat.reduceLeDiff, Int.reduceLE, Int.reduceLT, Int.reduceToNat, hn, g0, e1]
  refine WB_ind (fun (e : Nat) t h => H = h ∧ e ≤ Nat.log2 X ∧ t.n = 48 ∧ t.get 3 = .lit (.int .u64 X) ∧ t.get 4 = .lit (.int .i64 e)) (fun e => Nat.log2 X - e) ?_ 0 _ _ ?_
  · rintro e t h ⟨rfl, he, hn, g3, g4⟩ ih
    have hw : IntKind.i64.wrap ((e : Int) + 1) = ((e + 1 : Nat) : Int) := wrap_succ (n := 60) (by omega) (by omega)
    have hw2 : IntKind.u64.wrap ((e + 1 : Nat) : Int) = ((e + 1 : Nat) : Int) := wrap_u64 (by omega) (by omega)
    have hs := shr_nat X (e + 1) (by omega)
    have h0 : (0 : Int) ≤ ((e + 1 : Nat) : Int) := by omega
    have ht := log2_top x1 he
    by_cases hlt : e < Nat.log2 X
    · have hc : ((0 : Int) < ((X / 2 ^ (e + 1) : Nat) : Int)) = True := by have h9 := ht.2 hlt; simp only [eq_iff_iff, iff_true]; omega
      simp only [core, Nat.reduceAdd, Nat.reduceSub, Nat.reduceMul, Nat.reduceLT, Nat.reduceEqDiff, reduceCtorEq, Nat.reduceLeDiff, Int.reduceLE, Int.reduceLT, Int.reduceToNat, hn, g3, g4, hw, hw2, hs, h0, hc]
      refine ih (e + 1) _ _ ⟨rfl, by omega, ?_⟩ (by omega)
      simp only [core, Nat.reduceAdd, Nat.reduceSub, Nat.reduceMul, Nat.reduceLT, Nat.reduceEqDiff, reduceCtorEq, Nat.reduceLeDiff, Int.reduceLE, Int.reduceLT, Int.reduceToNat, hn, g3, g4]
    · have hc : ((0 : Int) < ((X / 2 ^ (e + 1) : Nat) : Int)) = False := by have h9 : ¬ 0 < X / 2 ^ (e + 1) := fun h => hlt (ht.1 h); simp only [eq_iff_iff, iff_false]; omega
      have heq : e = Nat.log2 X := by omega
      subst heq
      have hw3 : IntKind.i64.wrap (31 - (Nat.log2 X : Int)) = 31 - (Nat.log2 X : Int) := wrap_in (by omega) (by omega)
      have hw4 : IntKind.u64.wrap (31 - (Nat.log2 X : Int)) = 31 - (Nat.log2 X : Int) := wrap_u64 (by omega) (by omega)
      have h31 : (0 : Int) ≤ 31 - (Nat.log2 X : Int) := by omega
      simp only [core, Nat.reduceAdd, Nat.reduceSub, Nat.reduceMul, Nat.reduceLT, Nat.reduceEqDiff, reduceCtorEq, Nat.reduceLeDiff, Int.reduceLE, Int.reduceLT, Int.reduceToNat, hn, g3, g4, hw, hw2, hs, h0, hc, hw3, hw4, h31]
      refine WB_ind (fun (n : Nat) t h' => ∃ y o : Int, n ≤ 44 ∧ H = h' ∧ (lnL n (y, o)).2 = lnF u ∧ t.n = 48 ∧ t.get 5 = .lit (.int .u64 y) ∧ t.get 6 = .lit (.int .i64 o) ∧ t.get 7 = .lit (.int .i64 ((n : Int) - 1))) (fun n => n) ?_ 44 _ _ ?_
      · rintro n t h' ⟨y, o, hn44, rfl, hL, hn, g5, g6, g7⟩ ih2
        cases n with
        | zero =>
          have hc : ((0 : Int) ≤ ((0 : Nat) : Int) - 1) = False := by decide
          simp only [core, Nat.reduceAdd, Nat.reduceSub, Nat.reduceMul, Nat.reduceLT, Nat.reduceEqDiff, reduceCtorEq, Nat.reduceLeDiff, Int.reduceLE, Int.reduceLT, Int.reduceToNat, hn, g5, g6, g7, hc]
          rw [← hL]; rfl
        | succ m =>
          have hg7 : t.get 7 = .lit (.int .i64 (m : Int)) := by rw [g7]; congr 2; omega
          have hc : ((0 : Int) ≤ (m : Int)) = True := by simp
          have hw5 : IntKind.u64.wrap (m : Int) = (m : Int) := wrap_u64 (by omega) (by omega)
          have hw6 : IntKind.i64.wrap ((m : Int) - 1) = (m : Int) - 1 := wrap_in (by omega) (by omega)
          have hm : (0 : Int) ≤ (m : Int) := by omega
          have key : lnL (m + 1) (y, o) = lnL m (lnS m (y, o)) := rfl
          rw [key] at hL
          unfold lnS at hL
          simp only at hL
          simp only [core, Nat.reduceAdd, Nat.reduceSub, Nat.reduceMul, Nat.reduceLT, Nat.reduceEqDiff, reduceCtorEq, Nat.reduceLeDiff, Int.reduceLE, Int.reduceLT, Int.reduceToNat, hn, g5, g6, hg7, hc, hw5, hw6, hm]
          refine ⟨fun hq => ?_, fun hq => ?_⟩
          · rw [if_pos (by simpa using hq)] at hL
            refine ih2 m _ _ ⟨shrI .u64 (shrI .u64 (IntKind.u64.wrap (y * y)) 31) 1, IntKind.i64.wrap (o + shlI .i64 1 (m : Int)), by omega, rfl, hL, ?_⟩ (by omega)
            simp only [core, Nat.reduceAdd, Nat.reduceSub, Nat.reduceMul, Nat.reduceLT, Nat.reduceEqDiff, reduceCtorEq, Nat.reduceLeDiff, Int.reduceLE, Int.reduceLT, Int.reduceToNat, hn, g5, g6, g7]
          · rw [if_neg (by simpa using hq)] at hL
            refine ih2 m _ _ ⟨shrI .u64 (IntKind.u64.wrap (y * y)) 31, o, by omega, rfl, hL, ?_⟩ (by omega)
            simp only [core, Nat.reduceAdd, Nat.reduceSub, Nat.reduceMul, Nat.reduceLT, Nat.reduceEqDiff, reduceCtorEq, Nat.reduceLeDiff, Int.reduceLE, Int.reduceLT, Int.reduceToNat, hn, g5, g6, g7]
      · refine ⟨shlI .u64 X (31 - (Nat.log2 X : Int)), shlI .i64 (Nat.log2 X) 44, Nat.le_refl _, rfl, ?_, ?_⟩
        · unfold lnF
          rw [← hX, hw3]
        · simp only [core, Nat.reduceAdd, Nat.reduceSub, Nat.reduceMul, Nat.reduceLT, Nat.reduceEqDiff, reduceCtorEq, Nat.reduceLeDiff, Int.reduceLE, Int.reduceLT, Int.reduceToNat, hn, g3, g4]
          rfl
  · refine ⟨rfl, Nat.zero_le _, ?_⟩
    simp only [core, Nat.reduceAdd, Nat.reduceSub, Nat.reduceMul, Nat.reduceLT, Nat.reduceEqDiff, reduceCtorEq, Nat.reduceLeDiff, Int.reduceLE, Int.reduceLT, Int.reduceToNat, hn, g0]
    rfl
end Go.Proofs.Ytkgbeihcepociaa.Ex
end
