/- An abstract machine for closed runs: its values, its heap, its operations. -/
import Derived.Test.YtfchbkmegicfoaaGreatLib
set_option linter.unusedSimpArgs false
set_option linter.unusedVariables false
namespace Go.Proofs.YtfchbkmegicfoaaGreat.Ex
open Go

/-! Rows that are found fast: trees of numbers. -/

inductive Tri (α : Type) where
  | e
  | n (l : Tri α) (v : α) (r : Tri α)

variable {α : Type}

def Tri.get (d : α) : Tri α → Nat → α
  | .e, _ => d
  | .n l v r, k => bif Nat.ble k 1 then v else bif Nat.beq (k % 2) 0 then l.get d (k / 2) else r.get d (k / 2)

def Tri.lt : Tri α → Tri α
  | .e => .e
  | .n l _ _ => l

def Tri.rt : Tri α → Tri α
  | .e => .e
  | .n _ _ r => r

def Tri.top (d : α) : Tri α → α
  | .e => d
  | .n _ v _ => v

def Tri.put (d : α) : Nat → Tri α → Nat → α → Tri α
  | 0, t, _, _ => t
  | f + 1, t, k, x => bif Nat.ble k 1 then .n t.lt x t.rt else bif Nat.beq (k % 2) 0 then .n (Tri.put d f t.lt (k / 2) x) (t.top d) t.rt else .n t.lt (t.top d) (Tri.put d f t.rt (k / 2) x)

structure Vec (α : Type) where
  t : Tri α
  n : Nat

def vAt (d : α) (h : Vec α) (b : Nat) : Option α := bif Nat.blt b h.n then some (h.t.get d (b + 1)) else none

def vPut (d : α) (h : Vec α) (b : Nat) (x : α) : Vec α := bif Nat.blt b h.n then ⟨h.t.put d (Nat.log2 (b + 1) + 1) (b + 1) x, h.n⟩ else h

def vPush (d : α) (h : Vec α) (x : α) : Vec α := ⟨h.t.put d (Nat.log2 (h.n + 1) + 1) (h.n + 1) x, h.n + 1⟩

def vL (d : α) (h : Vec α) : List α := (List.range h.n).map fun b => h.t.get d (b + 1)

theorem get_put (d : α) : ∀ (f : Nat) (t : Tri α) (k j : Nat) (x : α), 1 ≤ k → 1 ≤ j → k < 2 ^ f → (t.put d f k x).get d j = if j = k then x else t.get d j
  | 0, t, k, j, x, hk, _, hf => by simp at hf; omega
  | f + 1, t, k, j, x, hk, hj, hf => by
    have e1 : t.get d j = if j ≤ 1 then t.top d else if j % 2 = 0 then t.lt.get d (j / 2) else t.rt.get d (j / 2) := by
      cases t with
      | e => simp [Tri.get, Tri.lt, Tri.rt, Tri.top]
      | n l v r =>
        simp only [Tri.get, Tri.lt, Tri.rt, Tri.top]
        by_cases h1 : j ≤ 1
        · rw [if_pos h1, Nat.ble_eq.mpr h1]; rfl
        · rw [if_neg h1, Bool.eq_false_iff.mpr (fun h => h1 (Nat.ble_eq.mp h))]
          by_cases h2 : j % 2 = 0
          · rw [if_pos h2, h2]; rfl
          · rw [if_neg h2, show Nat.beq (j % 2) 0 = false from Bool.eq_false_iff.mpr (fun h => h2 (Nat.eq_of_beq_eq_true h))]; rfl
    have e2 : ∀ (l : Tri α) (v : α) (r : Tri α), (Tri.n l v r).get d j = if j ≤ 1 then v else if j % 2 = 0 then l.get d (j / 2) else r.get d (j / 2) := fun l v r => by
      simp only [Tri.get]
      by_cases h1 : j ≤ 1
      · rw [if_pos h1, Nat.ble_eq.mpr h1]; rfl
      · rw [if_neg h1, Bool.eq_false_iff.mpr (fun h => h1 (Nat.ble_eq.mp h))]
        by_cases h2 : j % 2 = 0
        · rw [if_pos h2, h2]; rfl
        · rw [if_neg h2, show Nat.beq (j % 2) 0 = false from Bool.eq_false_iff.mpr (fun h => h2 (Nat.eq_of_beq_eq_true h))]; rfl
    rw [e1]
    simp only [Tri.put]
    by_cases h1 : k ≤ 1
    · rw [Nat.ble_eq.mpr h1]
      simp only [cond_true]
      rw [e2]
      by_cases hj1 : j ≤ 1
      · rw [if_pos hj1, if_pos (by omega)]
      · have hjk : ¬ j = k := by omega
        simp only [if_neg hj1, if_neg hjk]
    · rw [Bool.eq_false_iff.mpr (fun h => h1 (Nat.ble_eq.mp h))]
      simp only [cond_false]
      have hf2 : k / 2 < 2 ^ f := by rw [Nat.pow_succ] at hf; omega
      by_cases h2 : k % 2 = 0
      · rw [h2]
        rw [show Nat.beq 0 0 = true from rfl, cond_true, e2]
        by_cases hj1 : j ≤ 1
        · have hjk : ¬ j = k := by omega
          simp only [if_pos hj1, if_neg hjk]
        · simp only [if_neg hj1]
          by_cases hj2 : j % 2 = 0
          · simp only [if_pos hj2]
            rw [get_put d f _ _ _ _ (by omega) (by omega) hf2]
            by_cases hjk : j = k
            · rw [if_pos (by omega), if_pos hjk]
            · rw [if_neg (by omega), if_neg hjk]
          · have hjk : ¬ j = k := by omega
            simp only [if_neg hj2, if_neg hjk]
      · rw [show Nat.beq (k % 2) 0 = false from Bool.eq_false_iff.mpr (fun h => h2 (Nat.eq_of_beq_eq_true h)), cond_false, e2]
        by_cases hj1 : j ≤ 1
        · have hjk : ¬ j = k := by omega
          simp only [if_pos hj1, if_neg hjk]
        · simp only [if_neg hj1]
          by_cases hj2 : j % 2 = 0
          · have hjk : ¬ j = k := by omega
            simp only [if_pos hj2, if_neg hjk]
          · simp only [if_neg hj2]
            rw [get_put d f _ _ _ _ (by omega) (by omega) hf2]
            by_cases hjk : j = k
            · rw [if_pos (by omega), if_pos hjk]
            · rw [if_neg (by omega), if_neg hjk]

theorem vL_n (d : α) (h : Vec α) : (vL d h).length = h.n := by simp [vL]

theorem vL_at (d : α) (h : Vec α) (b : Nat) : (vL d h)[b]? = vAt d h b := by
  unfold vL vAt
  rw [List.getElem?_map]
  by_cases hb : b < h.n
  · rw [List.getElem?_range hb, show Nat.blt b h.n = true from Nat.blt_eq.mpr hb]; rfl
  · rw [List.getElem?_eq_none (by simp; omega), show Nat.blt b h.n = false from Bool.eq_false_iff.mpr (fun hh => hb (Nat.blt_eq.mp hh))]; rfl

theorem log2_lt (k : Nat) (hk : 1 ≤ k) : k < 2 ^ (Nat.log2 k + 1) := Nat.lt_log2_self

theorem vL_put (d : α) (h : Vec α) (b : Nat) (x : α) : vL d (vPut d h b x) = (vL d h).set b x := by
  apply List.ext_getElem?
  intro j
  rw [vL_at, List.getElem?_set, vL_n, vL_at]
  unfold vPut
  by_cases hb : b < h.n
  · rw [show Nat.blt b h.n = true from Nat.blt_eq.mpr hb, cond_true]
    unfold vAt
    simp only
    by_cases hj : j < h.n
    · rw [show Nat.blt j h.n = true from Nat.blt_eq.mpr hj, cond_true, cond_true, get_put d _ _ _ _ _ (by omega) (by omega) (log2_lt _ (by omega))]
      by_cases hbj : b = j
      · rw [if_pos (by omega), if_pos hbj, if_pos hb]
      · rw [if_neg (by omega), if_neg hbj]
    · rw [show Nat.blt j h.n = false from Bool.eq_false_iff.mpr (fun hh => hj (Nat.blt_eq.mp hh)), cond_false, cond_false, if_neg (by omega)]
  · rw [show Nat.blt b h.n = false from Bool.eq_false_iff.mpr (fun hh => hb (Nat.blt_eq.mp hh)), cond_false]
    by_cases hbj : b = j
    · subst hbj
      rw [if_pos rfl, if_neg hb]
      unfold vAt
      rw [show Nat.blt b h.n = false from Bool.eq_false_iff.mpr (fun hh => hb (Nat.blt_eq.mp hh)), cond_false]
    · rw [if_neg hbj]

theorem vL_push (d : α) (h : Vec α) (x : α) : vL d (vPush d h x) = vL d h ++ [x] := by
  apply List.ext_getElem?
  intro j
  rw [vL_at]
  unfold vAt vPush
  simp only
  by_cases hj : j < h.n
  · rw [show Nat.blt j (h.n + 1) = true from Nat.blt_eq.mpr (by omega), cond_true, get_put d _ _ _ _ _ (by omega) (by omega) (log2_lt _ (by omega)), if_neg (by omega), List.getElem?_append_left (by rw [vL_n]; exact hj), vL_at]
    unfold vAt
    rw [show Nat.blt j h.n = true from Nat.blt_eq.mpr hj, cond_true]
  · rw [List.getElem?_append_right (by rw [vL_n]; omega), vL_n]
    by_cases hjn : j = h.n
    · subst hjn
      rw [show Nat.blt h.n (h.n + 1) = true from Nat.blt_eq.mpr (by omega), cond_true, get_put d _ _ _ _ _ (by omega) (by omega) (log2_lt _ (by omega)), if_pos rfl, Nat.sub_self]
      rfl
    · rw [show Nat.blt j (h.n + 1) = false from Bool.eq_false_iff.mpr (fun hh => by have := Nat.blt_eq.mp hh; omega), cond_false, List.getElem?_eq_none (by simp; omega)]

/-- A slice's capacity: known, or at least its length (z: cells of an element). -/
inductive Cap where
  | kn (k : Nat)
  | un (z : Nat)
  deriving Repr

inductive AV where
  | lit (v : Value)
  | ptr (b off : Nat)
  | sl (b off len : Nat) (cap : Cap)
  | mp (b : Nat)
  | agg (l : List AV)
  | tup (l : List AV)
  | ifc (t : TypeId) (v : AV)
  | fn (f : Fn) (first caps : List AV)
  | ext (i : Nat)
  | rng (i : Nat) (lo hi : Option Int)

instance : Inhabited AV := ⟨.lit (.bool false)⟩

/-- Temporaries. -/
abbrev TM := Vec AV
def TM.at (h : TM) (b : Nat) : Option AV := vAt (.tup []) h b
def TM.set (h : TM) (b : Nat) (x : AV) : TM := vPut (.tup []) h b x
def TM.fill : TM → Nat → List AV → TM
  | m, _, [] => m
  | m, k, x :: r => TM.fill (m.set k x) (k + 1) r
/-- The values, and then so many that are not known yet. -/
def TM.ofL (l : List AV) (n : Nat) : TM := TM.fill ⟨.e, l.length + n⟩ 0 l

def TM.L (h : TM) : List AV := vL (.tup []) h
theorem TL_n (h : TM) : h.L.length = h.n := vL_n _ _
theorem TL_at (h : TM) (b : Nat) : h.L[b]? = h.at b := vL_at _ _ _
theorem TL_set (h : TM) (b : Nat) (x : AV) : (h.set b x).L = h.L.set b x := vL_put _ _ _ _
theorem Tn_set (h : TM) (b : Nat) (x : AV) : (h.set b x).n = h.n := by rw [← TL_n, TL_set, List.length_set, TL_n]

theorem fill_get : ∀ (l : List AV) (m : TM) (k j : Nat), k + l.length ≤ m.n → (TM.fill m k l).L[j]? = if k ≤ j ∧ j < k + l.length then l[j - k]? else m.L[j]?
  | [], m, k, j, _ => by rw [if_neg (by simp)]; rfl
  | x :: r, m, k, j, hk => by
    simp only [List.length_cons] at hk ⊢
    rw [TM.fill, fill_get r _ (k + 1) j (by rw [Tn_set]; omega), TL_set]
    by_cases h1 : k + 1 ≤ j ∧ j < k + 1 + r.length
    · rw [if_pos h1, if_pos (by omega), show j - k = (j - (k + 1)) + 1 by omega, List.getElem?_cons_succ]
    · rw [if_neg h1]
      by_cases h2 : j = k
      · subst h2
        rw [if_pos (by omega), List.getElem?_set_self (by rw [TL_n]; omega), Nat.sub_self]
        rfl
      · rw [if_neg (by omega), List.getElem?_set_ne (by omega)]

theorem empty_L (m : Nat) : TM.L ⟨.e, m⟩ = List.replicate m (AV.tup []) := by
  unfold TM.L vL
  apply List.ext_getElem?
  intro j
  rw [List.getElem?_map, List.getElem?_replicate]
  simp only
  by_cases hj : j < m
  · rw [if_pos hj, List.getElem?_range hj]; rfl
  · rw [if_neg hj, List.getElem?_eq_none (by simp; omega)]; rfl

theorem ofL_L (l : List AV) (n : Nat) : (TM.ofL l n).L = l ++ List.replicate n (.tup []) := by
  apply List.ext_getElem?
  intro j
  unfold TM.ofL
  rw [fill_get l _ 0 j (by simp), empty_L]
  by_cases h1 : j < l.length
  · rw [if_pos (by omega), Nat.sub_zero, List.getElem?_append_left h1]
  · rw [if_neg (by omega), List.getElem?_append_right (by omega), List.getElem?_replicate, List.getElem?_replicate]
    by_cases h2 : j < l.length + n
    · rw [if_pos h2, if_pos (by omega)]
    · rw [if_neg h2, if_neg (by omega)]

/-- Temporaries of which the values are these. -/
def tmOf (l : List AV) : TM := TM.ofL l 0
theorem tmOf_L (l : List AV) : (tmOf l).L = l := by rw [tmOf, ofL_L]; simp
theorem tmOf_at (l : List AV) (k : Nat) : (tmOf l).at k = l[k]? := by rw [← TL_at, tmOf_L]

structure AD where
  f : FuncId
  args : List AV

structure AE where
  key : Value
  val : AV
  born : Nat

structure ALoop where
  state : LoopState
  pending : Option Code
  fn : FuncId
  tmps : TM
  params : List Tmp
  assign : Code
  body : Code

inductive AB where
  | cells (l : List AV) (e : TypeId)
  | frz (l : List AV) (e : TypeId)
  | map (es : List AE) (clock : Nat)
  | loop (l : ALoop)
  | iter (m : Option Nat) (since : Nat) (seen : List Nat) (last : Nat)
  | defd
  | gone

abbrev AH := Vec AB
def AH.at (h : AH) (b : Nat) : Option AB := vAt .gone h b
def AH.put (h : AH) (b : Nat) (x : AB) : AH := vPut .gone h b x
def AH.push (h : AH) (x : AB) : AH := vPush .gone h x
def AH.nil : AH := ⟨.e, 0⟩

/-- A value without addresses and without parts. -/
def scal : Value → Bool
  | .bool _ | .int _ _ | .string _ | .pointer none | .slice none 0 0 | .map none | .nilFunc | .nilIface => true
  | _ => false

def ofScal (v : Value) : Option AV := if scal v then some (.lit v) else none

def ofScals : List Value → Option (List AV)
  | [] => some []
  | v :: r => match ofScal v, ofScals r with
    | some x, some y => some (x :: y)
    | _, _ => none

def ofVal1 : Value → Option AV
  | .agg cs => (ofScals cs.toList).map .agg
  | v => ofScal v

def ofVal1s : List Value → Option (List AV)
  | [] => some []
  | v :: r => match ofVal1 v, ofVal1s r with
    | some x, some y => some (x :: y)
    | _, _ => none

def ofVal : Value → Option AV
  | .tuple vs => (ofVal1s vs.toList).map .tup
  | .iface t v => (ofVal1 v).map (.ifc t)
  | v => ofVal1 v

def toScals : List AV → Option (List Value)
  | [] => some []
  | .lit v :: r => (toScals r).map (v :: ·)
  | _ :: _ => none

def toVal : AV → Option Value
  | .lit v => some v
  | .agg l => (toScals l).map fun l => .agg l.toArray
  | .ifc t (.lit v) => some (.iface t v)
  | .ifc t (.agg l) => (toScals l).map fun l => .iface t (.agg l.toArray)
  | _ => none

def AV.cells : AV → List AV
  | .agg l => l
  | v => [v]

inductive PR (α : Type) where
  | ok (a : α)
  | pan (v : Value)

def pur (P : Program) {α : Type} : Sem α → Option (PR α)
  | .pure a => some (.ok a)
  | .program k => pur P (k P)
  | .mark _ k => pur P k
  | .halt (.panic v) => some (.pan v)
  | _ => none

/-- What an operation comes to. -/
inductive AN where
  | val (v : AV)
  | enter (f : FuncId) (args : List AV)
  | round (l : Nat) (args : List AV)
  | defer (f : FuncId) (args : List AV)
  | recover
  | pan (v : AV)

def aundef : AV := .tup []

def evalA (tmps : TM) : Operand → Option AV
  | .tmp t => some ((tmps.at t).getD aundef)
  | .const v => ofVal v
  | .func f => some (.fn (.func f) [] [])
  | .global _ => none

def evals (tmps : TM) : List Operand → Option (List AV)
  | [] => some []
  | x :: r => match evalA tmps x, evals tmps r with
    | some v, some vs => some (v :: vs)
    | _, _ => none

/-- What is known of a type. -/
structure TI where
  desc : TypeDesc
  size : Nat
  bytes : Nat
  zero : AV
  /-- May a value be a map's key, and are two the same? -/
  ck : Value → Bool
  eq : Value → Value → Option Bool

abbrev TT := TypeId → Option TI

def und (T : TT) (t : TypeId) : Option TypeDesc := (T t).map (·.desc)

def isAggD : TypeDesc → Bool
  | .struct _ | .array _ _ => true
  | _ => false

def tiOf (P : Program) (t : TypeId) : TI :=
  { desc := (P.underlying t).getD .invalid
    size := ((P.info? t).map (·.size)).getD 0
    bytes := ((P.info? t).map (·.bytes)).getD 0
    zero := (((P.info? t).bind (·.zero)).bind ofVal1).getD (.tup [])
    ck := fun v => match pur P (Instr.checkKey true 10000 t v), pur P (Instr.checkKey false 10000 t v) with
      | some (.ok _), some (.ok _) => true
      | _, _ => false
    eq := fun a b => match pur P (Op.equal t a b) with
      | some (.ok r) => some r
      | _ => none }

/-- May a type stand in the table? -/
def okType (P : Program) (t : TypeId) : Bool := (P.underlying t).isSome && (((P.info? t).bind (·.zero)).bind ofVal1).isSome

/-- Numbers, to be found fast. -/
inductive NT where
  | leaf
  | node (l : NT) (k : Nat) (r : NT)

def NT.has (t : Nat) : NT → Bool
  | .leaf => false
  | .node l k r => bif Nat.beq t k then true else bif Nat.blt t k then l.has t else r.has t

def NT.all (p : Nat → Bool) : NT → Bool
  | .leaf => true
  | .node l k r => p k && l.all p && r.all p

def tabOf (P : Program) (N : NT) : TT := fun t => bif N.has t then some (tiOf P t) else none

def isAggT (T : TT) (t : TypeId) : Option Bool := (T t).map fun i => isAggD i.desc

def sizeT (T : TT) (t : TypeId) : Option Nat := (T t).map (·.size)

def zeroT (T : TT) (t : TypeId) : Option AV := (T t).map (·.zero)

/-- A row that may be written. -/
def getB (h : AH) (b : Nat) : Option (List AV × TypeId) := match (h.at b) with
  | some (.cells l e) => some (l, e)
  | _ => none

/-- A row that may be read. -/
def getR (h : AH) (b : Nat) : Option (List AV) := match (h.at b) with
  | some (.cells l _) | some (.frz l _) => some l
  | _ => none

/-- Cells of a row, n from i on. -/
def cut (l : List AV) (i n : Nat) : Option (List AV) := if i + n ≤ l.length then some ((l.drop i).take n) else none

def put (l : List AV) (i : Nat) (vs : List AV) : Option (List AV) := if i + vs.length ≤ l.length then some (l.take i ++ vs ++ l.drop (i + vs.length)) else none

/-- Is it the value of one cell? -/
def AV.one : AV → Bool
  | .agg _ | .tup _ => false
  | _ => true

def loadA (T : TT) (h : AH) (t : TypeId) (b off : Nat) : Option AV :=
  match getR h b, isAggT T t, sizeT T t with
  | some l, some true, some n => (cut l off n).map .agg
  | some l, some false, some _ => l[off]?
  | _, _, _ => none

def storeA (T : TT) (h : AH) (t : TypeId) (b off : Nat) (v : AV) : Option AH :=
  match getB h b, sizeT T t with
  | some (l, e), some n => if v.cells.length = n && v.cells.all AV.one then (put l off v.cells).map fun l' => h.put b (.cells l' e) else none
  | _, _ => none

def intA : AV → Option Int
  | .lit (.int _ n) => some n
  | _ => none

def natA (v : AV) : Option Nat := match intA v with
  | some n => if 0 ≤ n then some n.toNat else none
  | none => none

def fillA (place : Nat → Option (Nat × Nat)) : List AV → List (Nat × AV) → Option (List AV)
  | cells, [] => some cells
  | cells, (i, v) :: rest =>
    match place i with
    | some (off, size) => if v.cells.length = size then match put cells off v.cells with
      | some c => fillA place c rest
      | none => none else none
    | none => none

def evalParts (tmps : TM) : List (Nat × Operand) → Option (List (Nat × AV))
  | [] => some []
  | (i, x) :: r => match evalA tmps x, evalParts tmps r with
    | some v, some vs => some ((i, v) :: vs)
    | _, _ => none

def places (T : TT) : List Field → Option (List (Nat × Nat))
  | [] => some []
  | f :: r => match sizeT T f.type, places T r with
    | some n, some l => some ((f.offset, n) :: l)
    | _, _ => none

def buildA (T : TT) (t : TypeId) (parts : List (Nat × AV)) : Option AV :=
  match zeroT T t, und T t with
  | some (.agg z), some (.struct fs) => match places T fs.toList with
    | some pl => (fillA (fun i => pl[i]?) z parts).map .agg
    | none => none
  | some (.agg z), some (.array _ e) => match sizeT T e with
    | some n => (fillA (fun i => some (i * n, n)) z parts).map .agg
    | none => none
  | _, _ => none

def rep (z : List AV) : Nat → List AV
  | 0 => []
  | n + 1 => z ++ rep z n

def capGe (c : Cap) (len n : Nat) : Option Bool := match c with
  | .kn k => some (n ≤ k)
  | .un _ => if n ≤ len then some true else none

/-- The low and the high bound, and the new capacity, of a slice expression. -/
def boundsA (len : Nat) (cap : Cap) (lo hi mx : Option Nat) : Option (Nat × Nat × Cap) :=
  let l := lo.getD 0
  match mx with
  | some m => match hi with
    | some h => if l ≤ h && h ≤ m && capGe cap len m == some true then some (l, h, .kn (m - l)) else none
    | none => none
  | none =>
    let h := hi.getD len
    if l ≤ h && capGe cap len h == some true then some (l, h, match cap with | .kn k => .kn (k - l) | .un z => .un z) else none

def optNat (tmps : TM) : Option Operand → Option (Option Nat)
  | none => some none
  | some x => match evalA tmps x with
    | some v => (natA v).map some
    | none => none

/-- Bytes of cells. -/
def bytesA : List AV → Option (List UInt8)
  | [] => some []
  | .lit (.int .u8 (.ofNat k)) :: r => bif Nat.blt k 256 then (bytesA r).map (UInt8.ofNat k :: ·) else none
  | _ :: _ => none

def byteCells (s : ByteArray) : List AV := s.data.toList.map fun b => .lit (.int .u8 b.toNat)

/-- What is appended or copied: its elements' cells. -/
def srcA (h : AH) (z : Nat) : AV → Option (List AV)
  | .lit (.slice none 0 0) => some []
  | .lit (.string s) => bif Nat.beq z 1 then some (byteCells s) else none
  | .sl b off len _ => match getR h b with
    | some l => cut l off (len * z)
    | none => none
  | _ => none

def lenA : AV → Option Nat
  | .lit (.slice none 0 0) => some 0
  | .lit (.string s) => some s.size
  | .sl _ _ len _ => some len
  | _ => none

def isSrcD (z : Nat) : TypeDesc → Bool
  | .slice _ => true
  | .string => Nat.beq z 1
  | _ => false

/-- The appended cells laid: s is the slice, 'new' the cells, z their number in an element, m the number of elements. -/
def appendB (h : AH) (e : TypeId) (z m : Nat) (new : List AV) (s : AV) : Option (AV × AH) := match s with
  | .lit (.slice none 0 0) => bif Nat.beq m 0 then some (s, h) else some (.sl h.n 0 m (.un z), h.push (.cells new e))
  | .sl b off len cap => bif Nat.beq m 0 then some (s, h) else match getB h b with
    | some (l, e') => match cut l off (len * z), cap with
      | some old, .un z' => bif Nat.beq z z' && Nat.beq e e' then some (.sl h.n 0 (len + m) (.un z), (h.put b .gone).push (.cells (old ++ new) e)) else none
      | some old, .kn k => bif Nat.ble (len + m) k then (put l (off + len * z) new).map fun l' => (.sl b off (len + m) cap, h.put b (.cells l' e'))
        else some (.sl h.n 0 (len + m) (.un z), h.push (.cells (old ++ new) e))
      | none, _ => none
    | none => none
  | _ => none

def appendA (T : TT) (h : AH) (t tx : TypeId) (s x : AV) : Option (AV × AH) := match und T t, und T tx with
  | some (.slice e), some dx => match T e, lenA x, lenA s with
    | some i, some m, some n => bif isSrcD i.size dx && Nat.blt 0 i.size && Nat.ble i.size 200 && Nat.beq i.zero.cells.length i.size && Nat.ble (n + m) 16777216 && Nat.ble ((n + m) * i.bytes) 140737488355328 then match srcA h i.size x with
      | some new => bif Nat.beq new.length (m * i.size) && new.all AV.one then appendB h e i.size m new s else none
      | none => none else none
    | _, _, _ => none
  | _, _ => none

def copyB (h : AH) (z k : Nat) (cs : List AV) : AV → Option (AV × AH)
  | .sl b off _ _ => match getB h b with
    | some (l, e') => (put l off (cs.take (k * z))).map fun l' => (.lit (.int .i64 (k : Nat)), h.put b (.cells l' e'))
    | none => none
  | .lit (.slice none 0 0) => some (.lit (.int .i64 0), h)
  | _ => none

def copyA (T : TT) (h : AH) (t : TypeId) (d x : AV) : Option (AV × AH) := match und T t with
  | some (.slice e) => match sizeT T e, lenA d, lenA x with
    | some z, some n, some m => match srcA h z x with
      | some cs => bif Nat.beq cs.length (m * z) && cs.all AV.one then copyB h z (Nat.min m n) cs d else none
      | none => none
    | _, _, _ => none
  | _ => none

def keyKind : TypeDesc → Bool
  | .int _ | .string => true
  | _ => false

def findA (kind : TypeDesc) (k : Value) : List AE → Nat → Option (Option (Nat × AV))
  | [], _ => some none
  | e :: es, i => match Instr.sameNow kind k e.key with
    | some true => some (some (i, e.val))
    | some false => findA kind k es (i + 1)
    | none => none

def findE (eq : Value → Value → Option Bool) (k : Value) : List AE → Nat → Option (Option (Nat × AV))
  | [], _ => some none
  | e :: es, i => match eq k e.key with
    | some true => bif Instr.sameBits 10000 e.key k then some (some (i, e.val)) else none
    | some false => findE eq k es (i + 1)
    | none => none

def isStructD : TypeDesc → Bool
  | .struct _ => true
  | _ => false

/-- A key: a plain value, or some of them. -/
def keyV : Value → Bool
  | .agg cs => cs.toList.all scal
  | v => scal v

def keyOf : AV → Option Value
  | .lit v => some v
  | .agg l => (toScals l).map fun l => .agg l.toArray
  | _ => none

def avKey : Value → AV
  | .agg cs => .agg (cs.toList.map .lit)
  | v => .lit v

/-- Where a key stands in a map. -/
def findT (T : TT) (t : TypeId) (k : Value) (es : List AE) : Option (Option (Nat × AV)) := match und T t with
  | some (.map kt _) => match T kt with
    | some i => bif keyKind i.desc then findA i.desc k es 0 else bif isStructD i.desc && i.ck k then findE i.eq k es 0 else none
    | none => none
  | _ => none

def elemT (T : TT) (t : TypeId) : Option TypeId := match und T t with
  | some (.map _ e) => some e
  | _ => none

def entsA (h : AH) : AV → Option (List AE)
  | .lit (.map none) => some []
  | .mp b => match (h.at b) with
    | some (.map es _) => some es
    | _ => none
  | _ => none

def lookupA (T : TT) (h : AH) (t : TypeId) (m k : AV) (ok : Bool) : Option AV :=
  match keyOf k, entsA h m, elemT T t with
  | some key, some es, some e => match findT T t key es, zeroT T e with
      | some (some (_, v)), _ => some (bif ok then .tup [v, .lit (.bool true)] else v)
      | some none, some z => some (bif ok then .tup [z, .lit (.bool false)] else z)
      | _, _ => none
  | _, _, _ => none

def updateA (T : TT) (h : AH) (t : TypeId) (m k v : AV) : Option AH :=
  match m, keyOf k with
  | .mp b, some key => match (h.at b) with
    | some (.map es clock) => match findT T t key es with
      | some (some (i, _)) => some (h.put b (.map (es.modify i fun e => { e with key := key, val := v }) clock))
      | some none => some (h.put b (.map (es ++ [{ key, val := v, born := clock }]) (clock + 1)))
      | none => none
    | _ => none
  | _, _ => none

def deleteA (T : TT) (h : AH) (t : TypeId) (m k : AV) : Option AH :=
  match m, keyOf k with
  | .lit (.map none), some key => match findT T t key [] with
    | some _ => some h
    | none => none
  | .mp b, some key => match (h.at b) with
    | some (.map es clock) => match findT T t key es with
      | some (some (i, _)) => some (h.put b (.map (es.eraseIdx i) clock))
      | some none => some h
      | none => none
    | _ => none
  | _, _ => none

/-- A method of a type with the method's own function. -/
def methodA (P : Program) (t : TypeId) (name : String) : Option FuncId := match P.info? t with
  | some i => match i.methods.find? (·.name == name) with
    | some m => bif m.path.isEmpty then (match m.func, P.underlying t with
        | some (f, true), some (.pointer _) => some f
        | some (_, false), some (.pointer _) => none
        | some (f, false), some _ => some f
        | _, _ => none) else none
    | none => none
  | none => none

/-- A function's value, or a method's, called. -/
def callA (P : Program) (f : AV) (args : List AV) : Option AN :=
  match f with
  | .fn (.func g) first caps => some (.enter g (first ++ args ++ caps))
  | .fn (.yield l) [] [] => some (.round l args)
  | .fn (.method name) [.ifc t v] [] => (methodA P t name).map fun g => .enter g (v :: args)
  | _ => none

/-- Are two values, not both plain, the same? -/
def sameA (T : TT) (d : TypeDesc) (x y : AV) : Option Bool := match d, x, y with
  | .pointer _, .ptr _ _, .lit (.pointer none) | .pointer _, .lit (.pointer none), .ptr _ _ => some false
  | .slice _, .sl .., .lit (.slice none 0 0) | .slice _, .lit (.slice none 0 0), .sl .. => some false
  | .map _ _, .mp _, .lit (.map none) | .map _ _, .lit (.map none), .mp _ => some false
  | .func .., .fn .., .lit .nilFunc | .func .., .lit .nilFunc, .fn .. => some false
  | .interface _, .ifc .., .lit .nilIface | .interface _, .lit .nilIface, .ifc .. => some false
  | .pointer e, .ptr b i, .ptr c j => match sizeT T e with
    | some (_ + 1) => bif Nat.beq b c then some (Nat.beq i j) else none
    | _ => none
  | _, _, _ => none

def litAll (tmps : TM) : List Operand → Bool
  | [] => true
  | x :: r => match evalA tmps x with
    | some v => (toVal v).isSome && litAll tmps r
    | none => false

def litEnv (tmps : TM) (x : Operand) : Value := match evalA tmps x with
  | some v => (toVal v).getD undef
  | none => undef

def ofPR : Option (PR Next) → Option AN
  | some (.ok (.value v)) => (ofVal v).map .val
  | some (.pan v) => (ofVal v).map .pan
  | _ => none

def notSelect : Op → Bool
  | .select .. => false
  | _ => true

/-- An operation whose operands are all plain, by the model's own text. -/
def litOp (P : Program) (o : Oper) (tmps : TM) : Option AN :=
  if notSelect o.op && litAll tmps o.op.operands.toList then ofPR (pur P (execOp (litEnv tmps) o)) else none

abbrev AR := Option (AN × AH)

def val (h : AH) (x : Option AV) : AR := x.map fun x => (.val x, h)

def orLit (P : Program) (o : Oper) (tmps : TM) (h : AH) (r : Unit → AR) : AR := match litOp P o tmps with
  | some n => some (n, h)
  | none => r ()

def aPick (tmps : TM) (h : AH) (c a b : Operand) : AR := match evalA tmps c with
  | some (.lit (.bool t)) => val h (bif t then evalA tmps a else evalA tmps b)
  | _ => none

def aAlloc (T : TT) (h : AH) (t : TypeId) : AR := (zeroT T t).map fun z => (.val (.ptr h.n 0), h.push (.cells z.cells t))

def aBox (tmps : TM) (h : AH) (t : TypeId) (x : Operand) : AR := match evalA tmps x with
  | some z => if z.cells.all AV.one then some (.val (.ptr h.n 0), h.push (.cells z.cells t)) else none
  | none => none

def aBuild (T : TT) (tmps : TM) (h : AH) (t : TypeId) (ps : Array (Nat × Operand)) : AR := match evalParts tmps ps.toList with
  | some ps => val h (buildA T t ps)
  | none => none

def aBuildSlice (T : TT) (tmps : TM) (h : AH) (t : TypeId) (n : Nat) (ps : Array (Nat × Operand)) : AR := match und T t, evalParts tmps ps.toList with
  | some (.slice e), some ps => match T e with
    | some i => if i.zero.cells.length = i.size && n ≤ 65536 && n * i.size ≤ 65536 then (fillA (fun k => some (k * i.size, i.size)) (rep i.zero.cells n) ps).map fun l => (.val (.sl h.n 0 n (.kn n)), h.push (.cells l e)) else none
    | none => none
  | _, _ => none

def aLoad (T : TT) (tmps : TM) (h : AH) (t : TypeId) (a : Operand) : AR := match evalA tmps a with
  | some (.ptr b off) => val h (loadA T h t b off)
  | _ => none

def aStore (T : TT) (tmps : TM) (h : AH) (t : TypeId) (a x : Operand) : AR := match evalA tmps a, evalA tmps x with
  | some (.ptr b off), some x => (storeA T h t b off x).map fun h' => (.val aundef, h')
  | _, _ => none

def aNilCheck (P : Program) (o : Oper) (tmps : TM) (h : AH) (x : Operand) : AR := match evalA tmps x with
  | some (.ptr b off) => some (.val (.ptr b off), h)
  | some (.fn (.func g) a b) => some (.val (.fn (.func g) a b), h)
  | some (.ifc t x) => some (.val (.ifc t x), h)
  | _ => orLit P o tmps h fun _ => none

def aSame (T : TT) (tmps : TM) (h : AH) (op : BinOp) (t : TypeId) (x y : Operand) : AR := match und T t, evalA tmps x, evalA tmps y with
  | some d, some a, some b => match sameA T d a b, op with
    | some r, .eql => some (.val (.lit (.bool r)), h)
    | some r, .neq => some (.val (.lit (.bool !r)), h)
    | _, _ => none
  | _, _, _ => none

def bytesAt (h : AH) (b off len : Nat) : Option (List UInt8) := match getR h b with
  | some l => match cut l off len with
    | some cs => bytesA cs
    | none => none
  | none => none

def aConv1 (T : TT) (h : AH) (src dst : TypeId) (x : AV) : AR := match und T src, und T dst, x with
  | some (.slice e), some .string, .sl b off len _ => match und T e with
    | some (.int .u8) => val h ((bytesAt h b off len).map fun bs => .lit (.string ⟨bs.toArray⟩))
    | _ => none
  | some (.slice _), some (.slice e), .sl b off len cap => if src == dst then match und T e, getB h b with
      | some (.int .u8), some (l, e') => some (.val (.sl b off len cap), h.put b (.frz l e'))
      | _, _ => none else none
  | some .string, some (.slice e), .lit (.string s) => match und T e with
    | some (.int .u8) => bif Nat.ble s.size 16777216 then some (.val (.sl h.n 0 s.size (.un 1)), h.push (.frz (byteCells s) e)) else none
    | _ => none
  | _, _, _ => none

def aConvert (P : Program) (T : TT) (o : Oper) (tmps : TM) (h : AH) (src dst : TypeId) (x : Operand) : AR := match evalA tmps x with
  | some (.lit (.int k n)) => match und T src, und T dst with
    | some _, some (.int k') => some (.val (.lit (.int k' (k'.wrap n))), h)
    | _, _ => orLit P o tmps h fun _ => none
  | some v => orLit P o tmps h fun _ => aConv1 T h src dst v
  | none => none

def aMakeInterface (T : TT) (tmps : TM) (h : AH) (t : TypeId) (x : Operand) : AR := match und T t, evalA tmps x with
  | some (.interface _), _ => none
  | some _, some x => some (.val (.ifc t x), h)
  | _, _ => none

def notYield : Fn → Bool
  | .yield _ => false
  | _ => true

def aMakeFunc (tmps : TM) (h : AH) (f : Fn) (first caps : Array Operand) : AR := match evals tmps first.toList, evals tmps caps.toList with
  | some a, some b => bif notYield f then some (.val (.fn f a b), h) else none
  | _, _ => none

def aMakeSlice (T : TT) (tmps : TM) (h : AH) (t : TypeId) (l c : Operand) : AR := match und T t, (evalA tmps l).bind natA, (evalA tmps c).bind natA with
  | some (.slice e), some n, some m => match T e with
    | some i => if n ≤ m && m ≤ 65536 && i.bytes * m ≤ 281474976710656 && i.zero.cells.length = i.size then some (.val (.sl h.n 0 n (.kn m)), h.push (.cells (rep i.zero.cells m) e)) else none
    | none => none
  | _, _, _ => none

def capFits (z : Nat) : Cap → Bool
  | .kn _ => true
  | .un z' => Nat.beq z z'

def aSlice1 (T : TT) (h : AH) (t : TypeId) (x : AV) (lo hi mx : Option Nat) : AR := match und T t, x with
  | some (.slice e), .sl b off len cap => match sizeT T e, boundsA len cap lo hi mx with
    | some z, some (l, r, c) => bif capFits z c then some (.val (.sl b (off + l * z) (r - l) c), h) else none
    | _, _ => none
  | some (.array n e), .ptr b off => match sizeT T e, boundsA n (.kn n) lo hi mx with
    | some z, some (l, r, c) => bif Nat.ble n 16777216 then some (.val (.sl b (off + l * z) (r - l) c), h) else none
    | _, _ => none
  | _, _ => none

def aSlice (P : Program) (T : TT) (o : Oper) (tmps : TM) (h : AH) (t : TypeId) (x : Operand) (lo hi mx : Option Operand) : AR :=
  orLit P o tmps h fun _ => match evalA tmps x, optNat tmps lo, optNat tmps hi, optNat tmps mx with
    | some x, some lo, some hi, some mx => aSlice1 T h t x lo hi mx
    | _, _, _, _ => none

def aFieldAddr (T : TT) (tmps : TM) (h : AH) (t : TypeId) (x : Operand) (i : Nat) : AR := match und T t, evalA tmps x with
  | some (.struct fs), some (.ptr b off) => match fs[i]? with
    | some f => match sizeT T f.type with
      | some (_ + 1) => some (.val (.ptr b (off + f.offset)), h)
      | _ => none
    | none => none
  | _, _ => none

def partA (T : TT) (t : TypeId) (l : List AV) (off : Nat) : Option AV := match T t with
  | some i => bif isAggD i.desc then (cut l off i.size).map .agg else l[off]?
  | none => none

def aField (T : TT) (tmps : TM) (h : AH) (t : TypeId) (x : Operand) (i : Nat) : AR := match und T t, evalA tmps x with
  | some (.struct fs), some (.agg l) => match fs[i]? with
    | some f => val h (partA T f.type l f.offset)
    | none => none
  | _, _ => none

def aIndexAddr (T : TT) (tmps : TM) (h : AH) (t : TypeId) (x ix : Operand) : AR := match und T t, evalA tmps x, (evalA tmps ix).bind natA with
  | some (.slice e), some (.sl b off len _), some i => match sizeT T e with
    | some z => if i < len then some (.val (.ptr b (off + i * z)), h) else none
    | none => none
  | some (.array n e), some (.ptr b off), some i => match sizeT T e with
    | some z => if i < n then some (.val (.ptr b (off + i * z)), h) else none
    | none => none
  | _, _, _ => none

def aIndex (P : Program) (T : TT) (o : Oper) (tmps : TM) (h : AH) (t : TypeId) (x ix : Operand) : AR :=
  orLit P o tmps h fun _ => match und T t, evalA tmps x, (evalA tmps ix).bind natA with
    | some (.array n e), some (.agg l), some i => match sizeT T e with
      | some z => if i < n then val h (partA T e l (i * z)) else none
      | none => none
    | _, _, _ => none

def aLookup (T : TT) (tmps : TM) (h : AH) (t : TypeId) (m k : Operand) (ok : Bool) : AR := match evalA tmps m, evalA tmps k with
  | some m, some k => val h (lookupA T h t m k ok)
  | _, _ => none

def aUpdate (T : TT) (tmps : TM) (h : AH) (t : TypeId) (m k x : Operand) : AR := match evalA tmps m, evalA tmps k, evalA tmps x with
  | some m, some k, some x => (updateA T h t m k x).map fun h' => (.val aundef, h')
  | _, _, _ => none

def aRange (T : TT) (tmps : TM) (h : AH) (t : TypeId) (x : Operand) : AR := match und T t, evalA tmps x with
  | some (.map _ _), some (.lit (.map none)) => some (.val (.ptr h.n 0), h.push (.iter none 0 [] 0))
  | some (.map _ _), some (.mp b) => match h.at b with
    | some (.map _ clock) => some (.val (.ptr h.n 0), h.push (.iter (some b) clock [] clock))
    | _ => none
  | _, _ => none

/-- A map's iterator goes on, where there is one way alone: no entry is left, or one that was there from the beginning. -/
def aNext (tmps : TM) (h : AH) (x : Operand) (isS : Bool) : AR := match evalA tmps x, isS with
  | some (.ptr b 0), false => match h.at b with
    | some (.iter none _ _ _) => some (.val (.tup [.lit (.bool false)]), h)
    | some (.iter (some m) since seen last) => match h.at m with
      | some (.map es clock) => bif !seen.isEmpty && !es.isEmpty && es.all (fun e => decide (e.born ≥ last)) then none else match es.filter (fun e => !seen.contains e.born) with
        | [] => some (.val (.tup [.lit (.bool false)]), h)
        | [e] => bif Nat.blt e.born since then some (.val (.tup [.lit (.bool true), avKey e.key, e.val]), h.put b (.iter (some m) since (seen ++ [e.born]) clock)) else none
        | _ => none
      | _ => none
    | _ => none
  | _, _ => none

/-- The entry of a map's iterator. -/
def aEntry (tmps : TM) (h : AH) (x : Operand) : AR := match evalA tmps x with
  | some (.ptr b 0) => match h.at b with
    | some (.iter (some m) _ seen stepped) => match h.at m, seen.getLast? with
      | some (.map es clock), some stamp => bif Nat.beq clock stepped then match es.find? (fun e => Nat.beq e.born stamp) with
        | some e => some (.val (.tup [avKey e.key, e.val]), h)
        | none => none else none
      | _, _ => none
    | _ => none
  | _ => none

def aExtract (tmps : TM) (h : AH) (x : Operand) (i : Nat) : AR := match evalA tmps x with
  | some (.tup l) => val h l[i]?
  | _ => none

def okPair (ok : Bool) (v : AV) (b : Bool) : AV := bif ok then .tup [v, .lit (.bool b)] else v

def aAssert (P : Program) (T : TT) (tmps : TM) (h : AH) (x : Operand) (t : TypeId) (ok : Bool) : AR := match evalA tmps x, T t with
  | some (.ifc d y), some i => match i.desc with
    | .interface want => match P.info? d with
      | some j => if (Instr.missingMethod want j.methods).isNone then some (.val (okPair ok (.ifc d y) true), h) else none
      | none => none
    | _ => bif Nat.beq d t then some (.val (okPair ok y true), h) else bif ok then some (.val (.tup [i.zero, .lit (.bool false)]), h) else none
  | some (.lit .nilIface), some i => bif ok then some (.val (.tup [i.zero, .lit (.bool false)]), h) else none
  | _, _ => none

def aPanic (tmps : TM) (h : AH) (x : Operand) : AR := match evalA tmps x with
  | some (.ifc t x) => some (.pan (.ifc t x), h)
  | _ => none

def aBuiltin (P : Program) (T : TT) (o : Oper) (tmps : TM) (h : AH) (b : Builtin) (c : Call) : AR := match b, evals tmps c.args.toList, c.argTypes.toList with
  | .append, some [s, x], [t, tx] => (appendA T h t tx s x).map fun r => (.val r.1, r.2)
  | .copy, some [s, x], t :: _ => (copyA T h t s x).map fun r => (.val r.1, r.2)
  | .delete, some [m, k], t :: _ => (deleteA T h t m k).map fun h' => (.val (.tup []), h')
  | .len, some [.sl _ _ n _], t :: _ => match und T t with
    | some (.slice _) => some (.val (.lit (.int .i64 n)), h)
    | _ => none
  | .len, some [.mp b], t :: _ => match und T t, (h.at b) with
    | some (.map _ _), some (.map es _) => some (.val (.lit (.int .i64 es.length)), h)
    | _, _ => none
  | .recover, _, _ => some (.recover, h)
  | _, _, _ => orLit P o tmps h fun _ => none

def aCall (P : Program) (T : TT) (o : Oper) (tmps : TM) (h : AH) (c : Call) : AR := match c.callee with
  | .builtin b => aBuiltin P T o tmps h b c
  | .value f => match evalA tmps f, evals tmps c.args.toList with
    | some f, some args => (callA P f args).map (·, h)
    | _, _ => none
  | .invoke r name => match evalA tmps r, evals tmps c.args.toList with
    | some r, some args => (callA P (.fn (.method name) [r] []) args).map (·, h)
    | _, _ => none

def aDefer (P : Program) (tmps : TM) (h : AH) (c : Call) : AR := match c.callee with
  | .value f => match evalA tmps f, evals tmps c.args.toList with
    | some f, some args => match callA P f args with
      | some (.enter g a) => some (.defer g a, h)
      | _ => none
    | _, _ => none
  | _ => none

def ofPV (h : AH) : Option (PR Value) → AR
  | some (.ok v) => (ofScal v).map fun a => (.val a, h)
  | some (.pan v) => (ofVal v).map fun a => (.pan a, h)
  | none => none

def cmpB (op : BinOp) (below above upto from' : Bool) : Option Bool := match op with
  | .lss => bif below then some true else bif from' then some false else none
  | .geq => bif below then some false else bif from' then some true else none
  | .leq => bif upto then some true else bif above then some false else none
  | .gtr => bif upto then some false else bif above then some true else none
  | .eql => bif below || above then some false else none
  | .neq => bif below || above then some true else none
  | _ => none

def ltO (x : Option Int) (c : Int) : Bool := match x with
  | some b => decide (b < c)
  | none => false
def gtO (x : Option Int) (c : Int) : Bool := match x with
  | some b => decide (c < b)
  | none => false

/-- A number of which bounds are known, compared with a known one. -/
def cmpR (op : BinOp) (lo hi : Option Int) (c : Int) : Option Bool := cmpB op (ltO hi c) (gtO lo c) (ltO hi (c + 1)) (gtO lo (c - 1))

def aBin (P : Program) (T : TT) (o : Oper) (tmps : TM) (h : AH) (op : BinOp) (t : TypeId) (x y : Operand) : AR := match evalA tmps x, evalA tmps y with
  | some (.lit .nilIface), _ => orLit P o tmps h fun _ => aSame T tmps h op t x y
  | some (.lit a), some (.lit b) => ofPV h (pur P (binOp op t a b))
  | some (.rng _ lo hi), some (.lit (.int .i64 c)) => val h ((cmpR op lo hi c).map fun r => .lit (.bool r))
  | _, _ => orLit P o tmps h fun _ => aSame T tmps h op t x y

def aUn (P : Program) (tmps : TM) (h : AH) (op : UnOp) (x : Operand) : AR := match evalA tmps x with
  | some (.lit a) => ofPV h (pur P (Op.unary op a))
  | _ => none

def aop (P : Program) (T : TT) (o : Oper) (tmps : TM) (h : AH) : AR :=
  match o.op with
  | .move x | .assign x => val h (evalA tmps x)
  | .pick c a b => aPick tmps h c a b
  | .alloc t => aAlloc T h t
  | .box t x => aBox tmps h t x
  | .build t ps => aBuild T tmps h t ps
  | .buildSlice t n ps => aBuildSlice T tmps h t n ps
  | .load t a => aLoad T tmps h t a
  | .store t a x => aStore T tmps h t a x
  | .nilCheck x => aNilCheck P o tmps h x
  | .binOp op t x y _ => aBin P T o tmps h op t x y
  | .convert src dst x => aConvert P T o tmps h src dst x
  | .makeInterface t x => aMakeInterface T tmps h t x
  | .makeFunc f first caps => aMakeFunc tmps h f first caps
  | .makeMap _ none => some (.val (.mp h.n), h.push (.map [] 0))
  | .makeSlice t l c => aMakeSlice T tmps h t l c
  | .slice t x lo hi mx => aSlice P T o tmps h t x lo hi mx
  | .fieldAddr t x i => aFieldAddr T tmps h t x i
  | .field t x i => aField T tmps h t x i
  | .indexAddr t x ix => aIndexAddr T tmps h t x ix
  | .index t x ix => aIndex P T o tmps h t x ix
  | .lookup t m k ok => aLookup T tmps h t m k ok
  | .mapUpdate t m k x | .insert t m k x => aUpdate T tmps h t m k x
  | .extract x i => aExtract tmps h x i
  | .range t x => aRange T tmps h t x
  | .next x s => aNext tmps h x s
  | .entry x => aEntry tmps h x
  | .typeAssert x _ t ok => aAssert P T tmps h x t ok
  | .panic x => aPanic tmps h x
  | .call c => aCall P T o tmps h c
  | .defer c => aDefer P tmps h c
  | .unOp op _ x => aUn P tmps h op x
  | _ => none

end Go.Proofs.YtfchbkmegicfoaaGreat.Ex
