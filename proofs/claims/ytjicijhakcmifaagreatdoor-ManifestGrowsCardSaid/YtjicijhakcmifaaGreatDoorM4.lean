/- Part 4 of the proof: Msr, Lay7, Bdr, ExcL, Sl2, St, Mr1, Ty, Con, Mg2, Mg3, Mg4, Mg5, Mg6, Mg7, Mg1, Mr2, Mr3, Mr4, Mr5. -/
import Derived.Sort.Walk0
import Derived.Shelf.Small.Strs
import Derived.Test.YtjicijhakcmifaaGreatDoorProg
import Derived.Test.YtjicijhakcmifaaGreatDoorM3
open Nat renaming reduceAdd → zrA, reduceSub → zrS, reduceMul → zrM, reduceLT → zrL, reduceEqDiff → zrE, reduceLeDiff → zrD, reduceShiftRight → zrR, reduceMod → zrO
open Int renaming reduceLE → ziE, reduceLT → ziL, reduceToNat → ziN
section

set_option linter.unusedSimpArgs false
set_option linter.unusedVariables false
set_option maxRecDepth 10000
namespace Go.Proofs.YtjicijhakcmifaaGreatDoor.Ex
open Go Go.RowKit Go.Sort
def ltS (a b : List UInt8) : Bool := Op.bytesLess a b
theorem lt_irr : ∀ a : List UInt8, ltS a a = false
  | [] => rfl
  | x :: a => by
    unfold ltS Op.bytesLess
    have := lt_irr a
    unfold ltS at this
    rw [this]
    simp
theorem lt_tr : ∀ {a b c : List UInt8}, ltS a b = true → ltS b c = true → ltS a c = true
  | _, [], _, h, _ => by cases ‹List UInt8› <;> simp [ltS, Op.bytesLess] at h
  | _, _ :: _, [], _, h => by simp [ltS, Op.bytesLess] at h
  | [], _ :: _, _ :: _, _, _ => rfl
  | x :: a, y :: b, z :: c, h1, h2 => by
    unfold ltS Op.bytesLess at h1 h2 ⊢
    simp only [Bool.or_eq_true, Bool.and_eq_true, decide_eq_true_eq, beq_iff_eq] at h1 h2 ⊢
    rcases h1 with h1 | ⟨rfl, h1⟩
    · rcases h2 with h2 | ⟨rfl, h2⟩
      · exact .inl (UInt8.lt_trans h1 h2)
      · exact .inl h1
    · rcases h2 with h2 | ⟨rfl, h2⟩
      · exact .inl h2
      · exact .inr ⟨rfl, lt_tr (a := a) (b := b) (c := c) h1 h2⟩
theorem lt_eq : ∀ {a b : List UInt8}, ltS a b = false → ltS b a = false → a = b
  | [], [], _, _ => rfl
  | [], _ :: _, h, _ => by simp [ltS, Op.bytesLess] at h
  | _ :: _, [], _, h => by simp [ltS, Op.bytesLess] at h
  | x :: a, y :: b, h1, h2 => by
    unfold ltS Op.bytesLess at h1 h2
    simp only [Bool.or_eq_false_iff, Bool.and_eq_false_iff, decide_eq_false_iff_not, beq_eq_false_iff_ne, ne_eq] at h1 h2
    have hxy : x = y := UInt8.le_antisymm (UInt8.not_lt.1 h2.1) (UInt8.not_lt.1 h1.1)
    subst hxy
    rw [lt_eq (a := a) (b := b) (by rcases h1.2 with h | h; exact absurd rfl h; exact h) (by rcases h2.2 with h | h; exact absurd rfl h; exact h)]
theorem lt_asym {a b : List UInt8} (h : ltS a b = true) : ltS b a = false := by
  cases hb : ltS b a with
  | false => rfl
  | true => have := lt_tr h hb; rw [lt_irr] at this; cases this
theorem lt_ne {a b : List UInt8} (h : ltS a b = true) : a ≠ b := fun e => by rw [e, lt_irr] at h; cases h
theorem le_dec (a b : List UInt8) : decide (a ≤ b) = !ltS b a := by
  unfold ltS
  rw [bytesLess_eq]
  by_cases h : b < a
  · rw [decide_eq_true h, decide_eq_false fun hh => hh h]; rfl
  · rw [decide_eq_false h, decide_eq_true (p := a ≤ b) h]; rfl
def leS (a b : List UInt8) : Prop := ltS b a = false
theorem le_tr {a b c : List UInt8} (h1 : leS a b) (h2 : leS b c) : leS a c := by
  unfold leS at *
  cases h : ltS c a with
  | false => rfl
  | true =>
    cases hb : ltS a b with
    | true => have := lt_tr h hb; rw [h2] at this; cases this
    | false => have := lt_eq hb h1; subst this; rw [h2] at h; cases h
theorem le_tot (a b : List UInt8) : leS a b ∨ leS b a := by
  unfold leS
  cases h : ltS b a with
  | false => exact .inl rfl
  | true => exact .inr (lt_asym h)
theorem le_anti {a b : List UInt8} (h1 : leS a b) (h2 : leS b a) : a = b := lt_eq h2 h1
structure SetD where
  name : List UInt8
  id : List UInt8
  size : Int
  sha : Fin 32 → Int
def set0 : SetD := ⟨[], [], 0, fun _ => 0⟩
instance : Inhabited SetD := ⟨set0⟩
def setC (x : SetD) : List AV := [.lit (.string ⟨x.name.toArray⟩), .lit (.string ⟨x.id.toArray⟩), .lit (.int .i64 x.size), .lit (.int .u8 (x.sha 0)), .lit (.int .u8 (x.sha 1)), .lit (.int .u8 (x.sha 2)), .lit (.int .u8 (x.sha 3)), .lit (.int .u8 (x.sha 4)), .lit (.int .u8 (x.sha 5)), .lit (.int .u8 (x.sha 6)), .lit (.int .u8 (x.sha 7)), .lit (.int .u8 (x.sha 8)), .lit (.int .u8 (x.sha 9)), .lit (.int .u8 (x.sha 10)), .lit (.int .u8 (x.sha 11)), .lit (.int .u8 (x.sha 12)), .lit (.int .u8 (x.sha 13)), .lit (.int .u8 (x.sha 14)), .lit (.int .u8 (x.sha 15)), .lit (.int .u8 (x.sha 16)), .lit (.int .u8 (x.sha 17)), .lit (.int .u8 (x.sha 18)), .lit (.int .u8 (x.sha 19)), .lit (.int .u8 (x.sha 20)), .lit (.int .u8 (x.sha 21)), .lit (.int .u8 (x.sha 22)), .lit (.int .u8 (x.sha 23)), .lit (.int .u8 (x.sha 24)), .lit (.int .u8 (x.sha 25)), .lit (.int .u8 (x.sha 26)), .lit (.int .u8 (x.sha 27)), .lit (.int .u8 (x.sha 28)), .lit (.int .u8 (x.sha 29)), .lit (.int .u8 (x.sha 30)), .lit (.int .u8 (x.sha 31))]
def encS (x : SetD) : List Value := [.string ⟨x.name.toArray⟩, .string ⟨x.id.toArray⟩, .int .i64 x.size, .int .u8 (x.sha 0), .int .u8 (x.sha 1), .int .u8 (x.sha 2), .int .u8 (x.sha 3), .int .u8 (x.sha 4), .int .u8 (x.sha 5), .int .u8 (x.sha 6), .int .u8 (x.sha 7), .int .u8 (x.sha 8), .int .u8 (x.sha 9), .int .u8 (x.sha 10), .int .u8 (x.sha 11), .int .u8 (x.sha 12), .int .u8 (x.sha 13), .int .u8 (x.sha 14), .int .u8 (x.sha 15), .int .u8 (x.sha 16), .int .u8 (x.sha 17), .int .u8 (x.sha 18), .int .u8 (x.sha 19), .int .u8 (x.sha 20), .int .u8 (x.sha 21), .int .u8 (x.sha 22), .int .u8 (x.sha 23), .int .u8 (x.sha 24), .int .u8 (x.sha 25), .int .u8 (x.sha 26), .int .u8 (x.sha 27), .int .u8 (x.sha 28), .int .u8 (x.sha 29), .int .u8 (x.sha 30), .int .u8 (x.sha 31)]
theorem setC_of (x : SetD) : setC x = .lit (.string ⟨x.name.toArray⟩) :: .lit (.string ⟨x.id.toArray⟩) :: .lit (.int .i64 x.size) :: (List.ofFn x.sha).map fun b => .lit (.int .u8 b) := by
  simp [setC, List.ofFn_succ]
  repeat' (first | rfl | constructor)
def u8L : List AV → Option (List Int)
  | [] => some []
  | .lit (.int .u8 x) :: r => (u8L r).map (x :: ·)
  | _ :: _ => none
theorem u8L_eq : ∀ {l : List AV} {xs : List Int}, u8L l = some xs → l = xs.map fun x => .lit (.int .u8 x)
  | [], xs, h => by cases h; rfl
  | a :: r, xs, h => by
    unfold u8L at h
    split at h
    · rename_i h0; cases h0
    · rename_i x r' h0
      cases h0
      cases hr : u8L r with
      | none => rw [hr] at h; cases h
      | some ys =>
        rw [hr] at h
        cases h
        rw [u8L_eq hr]
        rfl
    · cases h
theorem u8L_map : ∀ xs : List Int, u8L (xs.map fun x => .lit (.int .u8 x)) = some xs
  | [] => rfl
  | x :: xs => by
    show (u8L (xs.map fun x => .lit (.int .u8 x))).map (x :: ·) = _
    rw [u8L_map xs]
    rfl
def set1 : List AV → Option SetD
  | .lit (.string n) :: .lit (.string i) :: .lit (.int .i64 s) :: r => (u8L r).bind fun bs => bif Nat.beq bs.length 32 then some ⟨n.data.toList, i.data.toList, s, fun j => bs.getD j.val 0⟩ else none
  | _ => none
theorem set1_eq {c : List AV} {x : SetD} (h : set1 c = some x) : c = setC x := by
  unfold set1 at h
  split at h
  case h_2 => cases h
  rename_i n i s r
  cases hb : u8L r with
  | none => rw [hb] at h; cases h
  | some bs =>
    rw [hb] at h
    simp only [Option.bind_some] at h
    cases hl : Nat.beq bs.length 32 with
    | false => rw [hl] at h; cases h
    | true =>
      rw [hl] at h
      cases h
      have hl := Nat.eq_of_beq_eq_true hl
      rw [setC_of, u8L_eq hb]
      have hbs : List.ofFn (fun j : Fin 32 => bs.getD j.val 0) = bs := by
        refine List.ext_getElem (by simp [hl]) fun k h1 h2 => ?_
        rw [List.getElem_ofFn, List.getD_eq_getElem?_getD, List.getElem?_eq_getElem h2]
        rfl
      simp only [hbs, Array.toArray_toList]
theorem set1_setC (x : SetD) : set1 (setC x) = some x := by
  rw [setC_of]
  unfold set1
  simp only [u8L_map, Option.bind_some, List.length_ofFn, Nat.beq_refl, cond_true, List.toList_toArray]
  congr 1
  cases x
  simp only [SetD.mk.injEq, true_and]
  funext j
  rw [List.getD_eq_getElem?_getD, List.getElem?_eq_getElem (by rw [List.length_ofFn]; exact j.isLt), List.getElem_ofFn]
  rfl
def setsL : Nat → List AV → Option (List SetD)
  | 0, [] => some []
  | 0, _ :: _ => none
  | n + 1, l => (set1 (l.take 35)).bind fun x => (setsL n (l.drop 35)).map (x :: ·)
theorem setsL_eq : ∀ {n : Nat} {l : List AV} {xs : List SetD}, setsL n l = some xs → l = xs.flatMap setC ∧ xs.length = n
  | 0, [], xs, h => by cases h; exact ⟨rfl, rfl⟩
  | 0, _ :: _, xs, h => by cases h
  | n + 1, l, xs, h => by
    unfold setsL at h
    cases h1 : set1 (l.take 35) with
    | none => rw [h1] at h; cases h
    | some x =>
      rw [h1] at h
      simp only [Option.bind_some] at h
      cases h2 : setsL n (l.drop 35) with
      | none => rw [h2] at h; cases h
      | some ys =>
        rw [h2] at h
        cases h
        obtain ⟨h3, h4⟩ := setsL_eq h2
        refine ⟨?_, by rw [List.length_cons, h4]⟩
        rw [List.flatMap_cons, ← set1_eq h1, ← h3, List.take_append_drop]
theorem setsL_flat : ∀ xs : List SetD, setsL xs.length (xs.flatMap setC) = some xs
  | [] => rfl
  | x :: xs => by
    rw [List.length_cons, List.flatMap_cons]
    unfold setsL
    have t1 : (setC x ++ xs.flatMap setC).take 35 = setC x := List.take_left' rfl
    have t2 : (setC x ++ xs.flatMap setC).drop 35 = xs.flatMap setC := List.drop_left' rfl
    rw [t1, t2, set1_setC, setsL_flat xs]
    rfl
def srtT (xs : List (List UInt8)) : List (List UInt8) := xs.mergeSort fun x y => decide (x ≤ y)
def srtS (xs : List SetD) : List SetD := xs.mergeSort fun x y => !ltS y.name x.name
def sSortT : List AV → AH → Option (AV × AH)
  | [.sl b 0 n _], h => match h.at b with
    | some (.cells l e) => match strsL l with
      | some xs => bif Nat.blt 0 n && (Nat.beq n xs.length && Nat.ble xs.length 1000000) then some (.tup [], h.put b (.cells ((srtT (xs.map (·.data.toList))).map fun x => .lit (.string ⟨x.toArray⟩)) e)) else none
      | none => none
    | _ => none
  | _, _ => none
def sSortF : List AV → AH → Option (AV × AH)
  | [.sl b 0 n _, .fn (.func f) [] []], h => match h.at b with
    | some (.cells l e) => match setsL n l with
      | some xs => bif Nat.beq f 25 && (Nat.blt 0 n && (Nat.ble n 1000000 && decide ((xs.map (·.name)).Nodup))) then some (.tup [], h.put b (.cells ((srtS xs).flatMap setC) e)) else none
      | none => none
    | _ => none
  | _, _ => none
variable {ρ : Nat → Value} {fl : Nat} {μ : Mu} {h h' : AH} {w : World} {v : AV} {args : List AV} {args' : List Value}
theorem one_putRow' {α : Type} {enc : α → Value} {w : World} {r : Nat} {e : TypeId} {cur : Array Value} {fz : Nat × Nat} (hg : w.heap[r]? = some (.cells cur e fz)) (n off : Nat) (d : Array α) [Inhabited α] :
    One r w (putRow enc (Sort.ahead w n) r off d) ∧ (putRow enc (Sort.ahead w n) r off d).heap[r]? = some (.cells (putCells enc off d cur) e fz) := by
  have hat : (putRow enc (Sort.ahead w n) r off d).heap[r]? = some (.cells (putCells enc off d cur) e fz) := by
    unfold putRow mapBlock Sort.ahead
    simp only [Array.getElem?_modify, if_true, hg, Option.map_some, onCells]
  have hot : ∀ k, k ≠ r → (putRow enc (Sort.ahead w n) r off d).heap[k]? = w.heap[k]? := fun k hk => by
    unfold putRow mapBlock Sort.ahead
    simp only [Array.getElem?_modify]
    rw [if_neg (fun hh => hk hh.symm)]
  refine ⟨⟨by unfold putRow mapBlock Sort.ahead; simp, hot, fun k cur' e' fz' hk => ?_, ⟨rfl, rfl, rfl⟩⟩, hat⟩
  by_cases hkr : k = r
  · subst hkr
    rw [hg] at hk
    obtain ⟨rfl, rfl, rfl⟩ := Obj.cells.inj (Option.some.inj hk)
    exact ⟨_, _, _, hat, by unfold putCells; simp⟩
  · exact ⟨cur', e', fz', by rw [hot k hkr]; exact hk, rfl⟩
theorem eff_grow' {P : Program} {μ : Mu} {h : AH} {w : World} (hr : HR P ρ fl μ h w) (os : Array Obj) : Eff P ρ fl μ h w μ h (grow w os) :=
  eff_old hr ⟨rfl, rfl, rfl⟩ (by unfold grow; simp) fun r hr => by
    unfold grow
    simp only
    rw [Array.getElem?_append_left hr]
/-- A whole row laid anew, with draws and blocks behind it. -/
theorem row_eff {α : Type} [Inhabited α] {enc : α → Value} {b r o : Nat} {e : TypeId} {cs : List AV} {cur : Array Value} (hr : HR Tryz.prog ρ fl μ h w) (m1 : μ b = some (r, o)) (hb : h.at b = some (.cells cs e)) (k1 : w.heap[r]? = some (.cells cur e (0, 0))) (k2 : window ρ μ w o cs cur) (k3 : bigT Tryz.prog e = true → o = 0 ∧ cur.size = cs.length)
    (d : Array α) (hd : d.size = cs.length) (hs : ∀ x ∈ d.toList, scal (enc x) = true) (n' : Nat) (os : Array Obj) :
    Eff Tryz.prog ρ fl μ h w μ (h.put b (.cells (d.toList.map fun x => .lit (enc x)) e)) (grow (putRow enc (Sort.ahead w n') r o d) os) := by
  obtain ⟨hone, hat⟩ := one_putRow' (enc := enc) k1 n' o d
  have hl : (d.toList.map fun x => AV.lit (enc x)).length = cs.length := by simp [hd]
  have hef : Eff Tryz.prog ρ fl μ h w μ (h.put b (.cells (d.toList.map fun x => .lit (enc x)) e)) (putRow enc (Sort.ahead w n') r o d) := by
    refine Eff.upd hr m1 hb rfl hone hat ⟨_, rfl, ⟨?_, fun i x hi => ?_⟩, fun hbg => ?_⟩
    · have := k2.1
      unfold putCells
      rw [hl]
      simpa using this
    · have hi' : i < d.size := by
        have := (List.getElem?_eq_some_iff.1 hi).1
        rw [hl] at this
        omega
      rw [List.getElem?_map, List.getElem?_eq_getElem (by simpa using hi')] at hi
      cases hi
      have hsz := k2.1
      refine ⟨enc d[i], ?_, rel_lit (hs _ (by simp))⟩
      unfold putCells
      rw [Array.getElem?_mapIdx, Array.getElem?_eq_getElem (by omega)]
      simp only [Option.map_some]
      rw [if_pos ⟨Nat.le_add_right _ _, by omega⟩, show o + i - o = i by omega]
      simp [hi']
    · obtain ⟨b1, b2⟩ := k3 hbg
      refine ⟨b1, ?_⟩
      unfold putCells
      rw [hl]
      simpa using b2
  exact Eff.trans hr hef (eff_grow' hef.hr os)
theorem strsL_lits {l : List AV} {xs : List ByteArray} (h : strsL l = some xs) (j : Nat) (hj : j < xs.length) : l[j]? = some (.lit (.string xs[j])) := by
  rw [strsL_eq h, List.getElem?_map, List.getElem?_eq_getElem hj]
  rfl
theorem sSortT_ok (hg : sSortT args h = some (v, h')) (hr : HR Tryz.prog ρ fl μ h w) (ha : rels ρ μ w args args') :
    Calls Tryz.prog 21 args'.toArray w fun e w' => ∃ μ' v', e = .returned v' ∧ Eff Tryz.prog ρ fl μ h w μ' h' w' ∧ rel ρ μ' w' v v' := by
  have hret : ∀ w', rel ρ μ w' (.tup []) (.tuple #[]) := fun w' => by unfold rel; exact ⟨[], rfl, rels_nil⟩
  unfold sSortT at hg
  split at hg
  case h_2 => cases hg
  rename_i b n c
  obtain ⟨v1, vs, rfl, r1, r2⟩ := rels_cons_inv ha
  obtain rfl := rels_nil_inv r2
  split at hg
  case h_2 => cases hg
  rename_i l e hb
  split at hg
  case h_2 => cases hg
  rename_i xs hxs
  cases hcc : (Nat.blt 0 n && (Nat.beq n xs.length && Nat.ble xs.length 1000000)) with
  | false => rw [hcc] at hg; cases hg
  | true =>
  rw [hcc] at hg
  cases hg
  simp only [Bool.and_eq_true] at hcc
  have hn0 : 0 < n := Nat.lt_of_lt_of_le (Nat.le_of_ble_eq_true hcc.1) (Nat.le_refl _)
  obtain rfl := Nat.eq_of_beq_eq_true hcc.2.1
  have hle : xs.length ≤ 1000000 := Nat.le_of_ble_eq_true hcc.2.2
  rcases rel_sl_inv r1 with ⟨r, base, o, c', m1, rfl, hco, hcap⟩ | hh
  case inr => exact absurd hh.1 (by omega)
  have hc0 := (capRel_le hcap).1
  have ho : o = base := by rcases hco with h | h <;> omega
  subst ho
  have hgb : getB h b = some (l, e) := by unfold getB; rw [hb]
  have hll : l.length = xs.length := by rw [strsL_eq hxs, List.length_map]
  obtain ⟨cur, k1, k2, k3⟩ := getB_sound hr m1 hgb
  obtain ⟨ss, hss⟩ : ∃ ss, ss = xs.map (·.data.toList) := ⟨_, rfl⟩
  have hsl : ss.length = xs.length := by rw [hss, List.length_map]
  have hH : Holds encStr w r o ss.toArray := fun j hj => by
    have hj' : j < xs.length := by simpa [hsl] using hj
    obtain ⟨v0, q1, q2⟩ := k2.2 j _ (strsL_lits hxs j hj')
    refine ⟨?_, frozen_in k1⟩
    rw [cell_in k1, q1, rel_lit_inv q2]
    simp [hss, hj', encStr]
  rw [← hsl]
  have hml : (srtT ss).length = ss.length := by unfold srtT; simp
  refine (Any.slices_Sort_string Tryz.llays190 r o c' ss w hH (Array.getElem?_eq_some_iff.1 k1).1 (by omega)).mono fun e' w' hy => ?_
  obtain ⟨rfl, n', os, rfl⟩ := hy
  refine ⟨μ, _, rfl, ?_, hret _⟩
  have := row_eff (enc := encStr) hr m1 hb k1 k2 k3 (srtT ss).toArray (by simp [hml, hsl, hll]) (fun _ _ => rfl) n' os
  rw [← hss]
  exact this
def cfS (x y : SetD) : Int := Lib.compareBytes x.name y.name
theorem cmp_lt : ∀ a b : List UInt8, decide (Lib.compareBytes a b < 0) = ltS a b
  | [], [] => rfl
  | [], _ :: _ => rfl
  | _ :: _, [] => rfl
  | x :: a, y :: b => by
    have ih := cmp_lt a b
    unfold Lib.compareBytes ltS Op.bytesLess
    unfold ltS at ih
    by_cases h1 : x < y
    · rw [if_pos h1, decide_eq_true h1]; rfl
    · rw [if_neg h1, decide_eq_false h1]
      by_cases h2 : y < x
      · rw [if_pos h2]
        have hne : (x == y) = false := beq_eq_false_iff_ne.2 fun e => by subst e; exact h1 h2
        rw [hne]; rfl
      · have hxy : x = y := UInt8.le_antisymm (UInt8.not_lt.1 h2) (UInt8.not_lt.1 h1)
        subst hxy
        rw [if_neg h2, ih]
        simp
theorem ltOf_cf (x y : SetD) : ltOf cfS x y = ltS x.name y.name := cmp_lt _ _
theorem swo_cf : SWO (ltOf cfS) :=
  ⟨fun x => by rw [ltOf_cf]; exact lt_irr _, fun x y z h1 h2 => by rw [ltOf_cf] at *; exact lt_tr h1 h2, fun x y z h1 h2 => by rw [ltOf_cf] at *; exact le_tr (a := z.name) (b := y.name) (c := x.name) h2 h1⟩
set_option maxHeartbeats 2000000 in
theorem closeS (x y : SetD) (W : World) : Calls Tryz.prog 25 #[.agg (encS x).toArray, .agg (encS y).toArray] W fun e w' => e = .returned (.int .i64 (cfS x y)) ∧ ∃ q os', w' = grow (W.drewN q) os' := by
  have hcon := fun W' => Any.strings_Compare Tryz.llays106 ⟨x.name.toArray⟩ ⟨y.name.toArray⟩ W'
  change ∀ W', Calls Tryz.prog 26 _ _ _ at hcon
  have hcf : Lib.compareBytes (⟨x.name.toArray⟩ : ByteArray).data.toList (⟨y.name.toArray⟩ : ByteArray).data.toList = cfS x y := rfl
  rw [hcf] at hcon
  unfold encS
  generalize cfS x y = r at hcon ⊢
  go_enter Tryz.func25, Tryz.ntmps25
  go_wp2_with (go_at_call 26; refine (hcon _).mono ?_; rintro e w' ⟨rfl, rfl⟩)
  go_ret
  exact ⟨rfl, 0, _, by rw [alloc_eq_grow, alloc_eq_grow, grow_grow]; rfl⟩
theorem flatK_get (xs : List SetD) : (flatK encS 35 xs.toArray).toList = xs.flatMap encS := by
  have hfl : ∀ l : List SetD, (l.flatMap encS).length = l.length * 35 := fun l => by
    induction l with
    | nil => rfl
    | cons x l ih => rw [List.flatMap_cons, List.length_append, ih, List.length_cons, show (encS x).length = 35 from rfl]; omega
  have key : ∀ (l : List SetD) (t : Nat), t < l.length * 35 → (l.flatMap encS)[t]! = (encS l[t / 35]!)[t % 35]! := fun l => by
    induction l with
    | nil => intro t ht; simp at ht
    | cons x l ih =>
      intro t ht
      rw [List.flatMap_cons]
      by_cases hlt : t < 35
      · rw [Nat.div_eq_of_lt hlt, Nat.mod_eq_of_lt hlt]
        simp only [List.getElem!_eq_getElem?_getD, List.getElem?_append_left (show t < (encS x).length from hlt)]
        rfl
      · obtain ⟨u, rfl⟩ : ∃ u, t = u + 35 := ⟨t - 35, by omega⟩
        rw [Nat.add_div_right _ (by decide), Nat.add_mod_right]
        have := ih u (by rw [List.length_cons] at ht; omega)
        simp only [List.getElem!_eq_getElem?_getD] at this ⊢
        rw [List.getElem?_append_right (show (encS x).length ≤ u + 35 by show 35 ≤ u + 35; omega), show u + 35 - (encS x).length = u from Nat.add_sub_cancel _ _, this]
        rfl
  refine List.ext_getElem (by simp [hfl]) fun t h1 h2 => ?_
  have ht : t < xs.toArray.size * 35 := by rw [hfl] at h2; simpa using h2
  have hA := get_flatK encS 35 xs.toArray t ht
  have hB := key xs t (by simpa using ht)
  rw [getElem!_pos (xs.flatMap encS) t h2] at hB
  rw [getElem!_pos (flatK encS 35 xs.toArray) t (by simpa using ht)] at hA
  rw [hB, Array.getElem_toList, hA]
  have hd : t / 35 < xs.length := by rw [Nat.div_lt_iff_lt_mul (by decide)]; simpa using ht
  rw [getElem!_pos xs.toArray _ (by simpa using hd), getElem!_pos xs _ hd]
  simp
theorem flat_lits (xs : List SetD) : xs.flatMap setC = (xs.flatMap encS).map AV.lit := by
  rw [List.map_flatMap]
  rfl
theorem srtS_eq {xs : List SetD} {d : Array SetD} (hn : (xs.map (·.name)).Nodup) (hp : PermIn 0 xs.toArray.size xs.toArray d) (hs : SortedIn (ltOf cfS) 0 xs.toArray.size d) : d.toList = srtS xs := by
  obtain ⟨p1, -, p3⟩ := hp
  have p4 : d.toList.Perm xs := by
    rw [← p1, Array.extract_size, p1, Array.extract_size] at p3
    exact p3
  have pm : d.toList.Pairwise (fun a b => leS a.name b.name) := List.pairwise_iff_getElem.2 fun i j hi hj hij => by
    have := hs i j (Nat.zero_le _) hij (by rw [← p1]; simpa using hj)
    rw [ltOf_cf, getElem!_pos d j (by simpa using hj), getElem!_pos d i (by simpa using hi)] at this
    simpa [leS] using this
  have sm : (srtS xs).Pairwise (fun a b => leS a.name b.name) := by
    have := List.pairwise_mergeSort (le := fun x y : SetD => !ltS y.name x.name) (fun a b c h h' => by rw [Bool.not_eq_true'] at *; exact le_tr h h') (fun a b => by rcases le_tot a.name b.name with h | h <;> unfold leS at h <;> simp [h]) xs
    exact this.imp fun {a b} h => by rw [Bool.not_eq_true'] at h; exact h
  refine List.Perm.eq_of_pairwise (le := fun a b : SetD => leS a.name b.name) (fun a b ha hb h1 h2 => ?_) pm sm (p4.trans (List.mergeSort_perm xs _).symm)
  have hab := le_anti h1 h2
  have ha' := p4.mem_iff.1 ha
  have hb' := (List.mergeSort_perm xs _).mem_iff.1 hb
  obtain ⟨i, hi, rfl⟩ := List.mem_iff_getElem.1 ha'
  obtain ⟨j, hj, rfl⟩ := List.mem_iff_getElem.1 hb'
  have hnd := List.pairwise_iff_getElem.1 (List.pairwise_map.1 hn)
  rcases Nat.lt_trichotomy i j with hij | rfl | hij
  · exact absurd hab (hnd i j hi hj hij)
  · rfl
  · exact absurd hab.symm (hnd j i hj hi hij)
theorem sSortF_ok (hg : sSortF args h = some (v, h')) (hr : HR Tryz.prog ρ fl μ h w) (ha : rels ρ μ w args args') :
    Calls Tryz.prog 24 args'.toArray w fun e w' => ∃ μ' v', e = .returned v' ∧ Eff Tryz.prog ρ fl μ h w μ' h' w' ∧ rel ρ μ' w' v v' := by
  have hret : ∀ w', rel ρ μ w' (.tup []) (.tuple #[]) := fun w' => by unfold rel; exact ⟨[], rfl, rels_nil⟩
  unfold sSortF at hg
  split at hg
  case h_2 => cases hg
  rename_i b n c f
  obtain ⟨v1, vs, rfl, r1, r2⟩ := rels_cons_inv ha
  obtain ⟨v2, vs, rfl, r3, r4⟩ := rels_cons_inv r2
  obtain rfl := rels_nil_inv r4
  split at hg
  case h_2 => cases hg
  rename_i l e hb
  split at hg
  case h_2 => cases hg
  rename_i xs hxs
  cases hcc : (Nat.beq f 25 && (Nat.blt 0 n && (Nat.ble n 1000000 && decide ((xs.map (·.name)).Nodup)))) with
  | false => rw [hcc] at hg; cases hg
  | true =>
  rw [hcc] at hg
  cases hg
  simp only [Bool.and_eq_true, decide_eq_true_eq] at hcc
  obtain ⟨c1, c2, c3, hnd⟩ := hcc
  obtain rfl := Nat.eq_of_beq_eq_true c1
  have hn0 : 0 < n := Nat.lt_of_lt_of_le (Nat.le_of_ble_eq_true c2) (Nat.le_refl _)
  have hle : n ≤ 1000000 := Nat.le_of_ble_eq_true c3
  obtain ⟨rfl, rfl⟩ := setsL_eq hxs
  have hv2 : v2 = .func (.func 25) #[] #[] := by
    unfold rel at r3
    obtain ⟨f', a, b', rfl, q1, q2, q3⟩ := r3
    obtain rfl := rels_nil_inv q2
    obtain rfl := rels_nil_inv q3
    have : f' = .func 25 := q1
    rw [this]
  subst hv2
  rcases rel_sl_inv r1 with ⟨r, base, o, c', m1, rfl, hco, hcap⟩ | hh
  case inr => exact absurd hh.1 (by omega)
  have hc0 := (capRel_le hcap).1
  have ho : o = base := by rcases hco with h | h <;> omega
  subst ho
  have hgb : getB h b = some (xs.flatMap setC, e) := by unfold getB; rw [hb]
  obtain ⟨cur, k1, k2, k3⟩ := getB_sound hr m1 hgb
  have hfl : (xs.flatMap setC).length = xs.length * 35 := by
    have := congrArg List.length (flatK_get xs)
    rw [flat_lits, List.length_map, ← this]
    simp
  have hcell : ∀ j (hj : j < xs.length * 35), (xs.flatMap setC)[j]? = some (.lit (flatK encS 35 xs.toArray)[j]!) := fun j hj => by
    have hj2 : j < (flatK encS 35 xs.toArray).size := by simpa using hj
    rw [flat_lits, ← flatK_get, List.getElem?_map, List.getElem?_eq_getElem (by simpa using hj), Array.getElem_toList, getElem!_pos (flatK encS 35 xs.toArray) j hj2]
    rfl
  have hH : HoldsK encS 35 w r o xs.toArray := fun j hj => by
    have hj' : j < xs.length * 35 := by simpa using hj
    obtain ⟨v0, q1, q2⟩ := k2.2 j _ (hcell j hj')
    refine ⟨?_, frozen_in k1⟩
    rw [cell_in k1, q1, rel_lit_inv q2]
    rfl
  have eg : ∀ args w, (callFunc 25 args).run Tryz.prog w = .ok (.enter 25 args) w := enters_of Tryz.func25 (by kernel_rfl) rfl
  refine (AnyQ.slices_SortFunc Tryz.lsllaysf06 35 Tryz.isAgg39 Tryz.sizeOf39 encS (fun _ => rfl) (fun x v hv => by
    unfold encS at hv
    simp only [List.mem_cons, List.not_mem_nil, or_false] at hv
    rcases hv with rfl | rfl | rfl | rfl | rfl | rfl | rfl | rfl | rfl | rfl | rfl | rfl | rfl | rfl | rfl | rfl | rfl | rfl | rfl | rfl | rfl | rfl | rfl | rfl | rfl | rfl | rfl | rfl | rfl | rfl | rfl | rfl | rfl | rfl | rfl <;> rfl) cfS swo_cf 25 #[] r o c' xs.toArray w eg (fun _ _ _ _ x y => closeS x y _) hH (Array.getElem?_eq_some_iff.1 k1).1 (by simp; omega)).mono fun e' w' hy => ?_
  obtain ⟨rfl, d', n', os, hp, hs, rfl⟩ := hy
  refine ⟨μ, _, rfl, ?_, hret _⟩
  have hd := srtS_eq hnd hp hs
  have hdl : d'.size = xs.length := by rw [hp.1]; simp
  have := row_eff (enc := id) hr m1 hb k1 k2 k3 (flatK encS 35 d') (by rw [size_flatK, hdl, hfl]) ?_ n' os
  · have e1 : (flatK encS 35 d').toList.map (fun x => AV.lit (id x)) = (srtS xs).flatMap setC := by
      rw [flat_lits, ← hd, ← flatK_get, Array.toArray_toList]
      rfl
    rw [e1] at this
    exact this
  · intro x hx
    rw [flatK_get d'.toList] at hx
    obtain ⟨s, -, hx⟩ := List.mem_flatMap.1 hx
    unfold encS at hx
    simp only [List.mem_cons, List.not_mem_nil, or_false] at hx
    rcases hx with rfl | rfl | rfl | rfl | rfl | rfl | rfl | rfl | rfl | rfl | rfl | rfl | rfl | rfl | rfl | rfl | rfl | rfl | rfl | rfl | rfl | rfl | rfl | rfl | rfl | rfl | rfl | rfl | rfl | rfl | rfl | rfl | rfl | rfl | rfl <;> rfl
end Go.Proofs.YtjicijhakcmifaaGreatDoor.Ex
end

section

namespace Go.Proofs
open Go.Shelf
def Tryz.llays137_ren : Go.Shelf.Ren := ⟨fun | 137 => 59 | 217 => 97 | 266 => 124 | n => n, fun | 9 => 9 | 5 => 5 | 3 => 3 | n => n, fun | n => n⟩
theorem Tryz.llays137 : Go.Proofs.Lays.n137 Tryz.prog Tryz.llays137_ren := {
  mixed := by kernel_rfl,
  f137 := Tryz.func59.trans (congrArg some (by kernel_rfl)),
  f217 := Tryz.func97.trans (congrArg some (by kernel_rfl)),
  f266 := Tryz.func124.trans (congrArg some (by kernel_rfl)),
  t3 := Tryz.underlying3,
  a3 := Tryz.isAgg3,
  z3 := Tryz.sizeOf3,
  v3 := Tryz.zeroValue3,
  t5 := Tryz.underlying5,
  a5 := Tryz.isAgg5,
  z5 := Tryz.sizeOf5,
  v5 := Tryz.zeroValue5,
  t9 := Tryz.underlying9,
  a9 := Tryz.isAgg9,
  z9 := Tryz.sizeOf9,
  v9 := Tryz.zeroValue9 }
end Go.Proofs
end

section

set_option linter.unusedSimpArgs false
set_option linter.unusedVariables false
set_option maxRecDepth 10000
namespace Go.Proofs.YtjicijhakcmifaaGreatDoor.Ex
open Go Go.RowKit Go.Shelf
variable {ρ : Nat → Value} {fl : Nat} {μ : Mu} {h h' : AH} {w : World} {v : AV} {args : List AV} {args' : List Value}
theorem big_builder : bigT Tryz.prog 71 = true := by decide +kernel
def sCopyCheck : List AV → AH → Option (AV × AH)
  | [.ptr b 0], h => match h.at b with
    | some (.cells [.lit (.pointer none), v] e) => bif Nat.beq e 71 then some (.tup [], h.put b (.cells [.ptr b 0, v] e)) else none
    | some (.cells [.ptr c 0, _] e) => bif Nat.beq e 71 && Nat.beq c b then some (.tup [], h) else none
    | _ => none
  | _, _ => none
theorem cc240 : Lays.n240 Tryz.prog Tryz.llays156_ren := { Tryz.llays156 with }
theorem sCopyCheck_ok (hg : sCopyCheck args h = some (v, h')) (hr : HR Tryz.prog ρ fl μ h w) (ha : rels ρ μ w args args') :
    Calls Tryz.prog 53 args'.toArray w fun e w' => ∃ μ' v', e = .returned v' ∧ Eff Tryz.prog ρ fl μ h w μ' h' w' ∧ rel ρ μ' w' v v' := by
  have hret : ∀ w', rel ρ μ w' (.tup []) (.tuple #[]) := fun w' => by unfold rel; exact ⟨[], rfl, rels_nil⟩
  unfold sCopyCheck at hg
  split at hg
  case h_2 => cases hg
  rename_i b
  obtain ⟨v1, vs, rfl, r1, r2⟩ := rels_cons_inv ha
  obtain rfl := rels_nil_inv r2
  obtain ⟨r, base, m1, rfl⟩ := rel_ptr_inv r1
  split at hg
  · rename_i u e hb
    cases hc : Nat.beq e 71 with
    | false => rw [hc] at hg; cases hg
    | true =>
    rw [hc] at hg
    obtain rfl := Nat.eq_of_beq_eq_true hc
    cases hg
    have hgb : getB h b = some ([.lit (.pointer none), u], 71) := by unfold getB; rw [hb]
    obtain ⟨cur, k1, k2, k3⟩ := getB_sound hr m1 hgb
    obtain ⟨rfl, hsz⟩ := k3 big_builder
    obtain ⟨v0, q1, q2⟩ := k2.2 0 _ rfl
    obtain rfl := rel_lit_inv q2
    have hv : rels ρ μ w [.ptr b 0] [.pointer (some ⟨r, 0, none⟩)] := rels_cons (rel_ptr (off := 0) m1) rels_nil
    have hst := (setCells_eff (off := 0) (vs := [.ptr b 0]) (l' := [.ptr b 0, u]) hr m1 hgb rfl hv).1
    refine (Any.Builder_copyCheck_fresh cc240 joinX.toX72 r w ?_ ?_ (frozen_in k1)).mono fun e' w' hy => ?_
    · rw [cell_in k1]; exact q1
    · unfold World.shape?
      rw [k1]
      simp only [hsz]
      rfl
    · obtain ⟨rfl, rfl⟩ := hy
      exact ⟨μ, _, rfl, hst, hret _⟩
  · rename_i c u e hb
    cases hc : (Nat.beq e 71 && Nat.beq c b) with
    | false => rw [hc] at hg; cases hg
    | true =>
    rw [hc] at hg
    simp only [Bool.and_eq_true] at hc
    obtain rfl := Nat.eq_of_beq_eq_true hc.1
    have hcb := Nat.eq_of_beq_eq_true hc.2
    rw [hcb] at hb
    cases hg
    have hgb : getB h b = some ([.ptr b 0, u], 71) := by unfold getB; rw [hb]
    obtain ⟨cur, k1, k2, k3⟩ := getB_sound hr m1 hgb
    obtain ⟨rfl, hsz⟩ := k3 big_builder
    obtain ⟨v0, q1, q2⟩ := k2.2 0 _ rfl
    obtain ⟨r', base', m2, rfl⟩ := rel_ptr_inv q2
    rw [m1] at m2
    cases m2
    refine (Any.Builder_copyCheck_used cc240 joinX.toX72 r w ?_).mono fun e' w' hy => ?_
    · rw [cell_in k1]; exact q1
    · obtain ⟨rfl, rfl⟩ := hy
      exact ⟨μ, _, rfl, Eff.refl hr, hret _⟩
  · cases hg
theorem lies_off {P : Program} {e : TypeId} (hc : P.cellsOf e = 1) (count o n : Nat) (hn : o + n ≤ count) : liesAt P P.depth e count o e n = true := by
  have hd : P.depth = (2 * (P.types.size + Made.depth) + 1) + 1 := rfl
  rw [hd]
  simp only [liesAt, Bool.or_eq_true]
  left
  rw [hd]
  simp [rowAt, hc, hn, sameLayout, Nat.mod_one, Nat.div_one]
/-- unsafe.String over bytes of a row, from wherever. -/
theorem run_unsafeString_off {P : Program} (w : World) (pt it ty e : TypeId) (hp : P.underlying pt = some (.pointer e)) (hc : P.cellsOf e = 1) (g o cells : Nat) (hsh : w.shape? g = some (e, cells)) (l : List UInt8) (h0 : l ≠ []) (hn : o + l.length ≤ cells) (h63 : l.length ≤ 9223372036854775807)
    (hcell : ∀ j x, l[j]? = some x → w.cell? ((⟨g, o, none⟩ : Addr).add j) = some (.int .u8 x.toNat)) :
    (Builtin.unsafeString_ #[pt, it] ty #[.pointer (some ⟨g, o, none⟩), .int .i64 l.length]).run P w = .ok (.string ⟨l.toArray⟩) (w.freeze ⟨g, o, none⟩ l.length) := by
  have hl : l.length ≠ 0 := by simpa using h0
  have hlb := Lib.run_loadBytes (P := P) w l ⟨g, o, none⟩ .empty hcell
  have hlies := lies_off (P := P) hc (cells / P.cellsOf e) o l.length (by rw [hc]; simpa using hn)
  have h63' : ¬ (9223372036854775807 : Int) < (l.length : Int) := by omega
  have hmax : IntKind.i64.max = 9223372036854775807 := rfl
  have hneg : ¬ (l.length : Int) < 0 := by omega
  have hdef : Builtin.unsafeString_ #[pt, it] ty #[.pointer (some ⟨g, o, none⟩), .int .i64 l.length] =
      (do
        let n ← asInt (.int .i64 l.length)
        if n < 0 then runtimePanic (.error "unsafe.String: len out of range")
        if n > IntKind.i64.max then unsupported (.unsafePointer "String: a length above the largest int")
        if n = 0 then pure (.string .empty)
        else if ← variablesAt ⟨g, o, none⟩ (← elemOf pt) n.toNat then do
          let s ← loadBytes ⟨g, o, none⟩ .empty n.toNat
          freeze ⟨g, o, none⟩ n.toNat
          pure (.string s)
        else unsupported (.unsafePointer "String: not so many bytes at ptr")) := rfl
  rw [hdef]
  simp [asInt, asIntOf, hmax, h63', hneg, hl, variablesAt, hsh, elemOf, run_underlying hp, hlies, hlb]
def sBString : List AV → AH → Option (AV × AH)
  | [.ptr b 0], h => match h.at b with
    | some (.cells [_, .sl g off n _] e) => match h.at g with
      | some (.cells l e2) => match (cut l off n).bind bytesA with
        | some bs => bif Nat.beq e 71 && (Nat.beq e2 5 && (Nat.blt 0 n && Nat.beq bs.length n)) then some (.lit (.string ⟨bs.toArray⟩), h.put g (.frz l e2)) else none
        | none => none
      | _ => none
    | _ => none
  | _, _ => none
set_option maxHeartbeats 2000000 in
theorem bstring_real (rb g o c : Nat) (p : Value) (cur : Array Value) (l : List UInt8) (w : World) (hbk : w.heap[rb]? = some (.cells #[p, .slice (some ⟨g, o, none⟩) l.length c] 71 (0, 0))) (hg : w.heap[g]? = some (.cells cur 5 (0, 0)))
    (hc : l.length ≤ c) (h0 : l ≠ []) (hfit : o + l.length ≤ cur.size) (h63 : l.length ≤ 9223372036854775807) (hcell : ∀ j x, l[j]? = some x → cur[o + j]? = some (.int .u8 x.toNat)) :
    Calls Tryz.prog 33 #[.pointer (some ⟨rb, 0, none⟩)] w fun e w' => e = .returned (.string ⟨l.toArray⟩) ∧ w' = w.drew.freeze ⟨g, o, none⟩ l.length := by
  have hl0 : l.length ≠ 0 := by simpa using h0
  have c1 : w.drew.cell? ⟨rb, 1, none⟩ = some (.slice (some ⟨g, o, none⟩) l.length c) := by
    have : w.drew.heap[rb]? = some (.cells #[p, .slice (some ⟨g, o, none⟩) l.length c] 71 (0, 0)) := hbk
    rw [cell_in this]; rfl
  have hSD : (Builtin.unsafeSliceData_ #[42] 100 #[.slice (some ⟨g, o, none⟩) l.length c]).run Tryz.prog w.drew = .ok (.pointer (some ⟨g, o, none⟩)) w.drew :=
    Lib.run_unsafeSliceData_row _ _ _ _ _ _ (by omega)
  have hUS : (Builtin.unsafeString_ #[100, 3] 9 #[.pointer (some ⟨g, o, none⟩), .int .i64 l.length]).run Tryz.prog w.drew = .ok (.string ⟨l.toArray⟩) (w.drew.freeze ⟨g, o, none⟩ l.length) := by
    have hg' : w.drew.heap[g]? = some (.cells cur 5 (0, 0)) := hg
    refine run_unsafeString_off w.drew 100 3 9 5 (by kernel_rfl) (by kernel_rfl) g o cur.size (by simp [World.shape?, hg']) l h0 hfit h63 ?_
    intro j x hx
    rw [addr_add, cell_in hg']
    exact hcell j x hx
  have mixed : Tryz.prog.follows .mixedOrders = true := by kernel_rfl
  go_enter Tryz.func33, Tryz.ntmps33
  go_wp2
  go_region_o
  all_goals (go_wp2; go_ret; exact ⟨rfl, rfl⟩)
theorem sBString_ok (hg : sBString args h = some (v, h')) (hr : HR Tryz.prog ρ fl μ h w) (ha : rels ρ μ w args args') :
    Calls Tryz.prog 33 args'.toArray w fun e w' => ∃ μ' v', e = .returned v' ∧ Eff Tryz.prog ρ fl μ h w μ' h' w' ∧ rel ρ μ' w' v v' := by
  unfold sBString at hg
  split at hg
  case h_2 => cases hg
  rename_i b
  obtain ⟨v1, vs, rfl, r1, r2⟩ := rels_cons_inv ha
  obtain rfl := rels_nil_inv r2
  obtain ⟨r, base, m1, rfl⟩ := rel_ptr_inv r1
  split at hg
  case h_2 => cases hg
  rename_i u g off n cap e hb
  split at hg
  case h_2 => cases hg
  rename_i l e2 hgl
  split at hg
  case h_2 => cases hg
  rename_i bs hbs
  cases hc : (Nat.beq e 71 && (Nat.beq e2 5 && (Nat.blt 0 n && Nat.beq bs.length n))) with
  | false => rw [hc] at hg; cases hg
  | true =>
  rw [hc] at hg
  simp only [Bool.and_eq_true] at hc
  obtain ⟨q1, q2, q3, q4⟩ := hc
  obtain rfl := Nat.eq_of_beq_eq_true q1
  obtain rfl := Nat.eq_of_beq_eq_true q2
  obtain rfl := Nat.eq_of_beq_eq_true q4
  have q3 := Nat.blt_eq.mp q3
  cases hg
  obtain ⟨cs, hcs, hbA⟩ := Option.bind_eq_some_iff.1 hbs
  have hgb : getB h b = some ([u, .sl g off bs.length cap], 71) := by unfold getB; rw [hb]
  obtain ⟨cur, k1, k2, k3⟩ := getB_sound hr m1 hgb
  obtain ⟨rfl, hsz⟩ := k3 big_builder
  obtain ⟨p0, t1, -⟩ := k2.2 0 _ rfl
  obtain ⟨p1, t2, t3⟩ := k2.2 1 _ rfl
  have hcur : cur = #[p0, p1] := by
    refine Array.ext (by simpa using hsz) fun i h1 h2 => ?_
    simp only [List.length_cons, List.length_nil] at hsz
    match i, h1 with
    | 0, _ => rw [Array.getElem?_eq_getElem (by omega)] at t1; exact Option.some.inj t1
    | 1, _ => rw [Array.getElem?_eq_getElem (by omega)] at t2; exact Option.some.inj t2
    | i + 2, h1 => omega
  subst hcur
  rcases rel_sl_inv t3 with ⟨rg, baseg, o, c, m2, rfl, hco, hcap⟩ | ⟨hn, -⟩
  rotate_left
  · omega
  have hc0 := capRel_le hcap
  have ho : o = baseg + off := by rcases hco with h | h <;> omega
  subst ho
  have hgg : getB h g = some (l, 5) := by unfold getB; rw [hgl]
  obtain ⟨cg, j1, j2, -⟩ := getB_sound hr m2 hgg
  obtain ⟨vs, s1, s2, s3, s4, s5⟩ := cut_sound j2 hcs
  obtain rfl := bytesA_some hbA s1
  have hmax := hc0.2
  refine (bstring_real r rg (baseg + off) c p0 cg bs w k1 j1 hc0.1 (fun hh => by rw [hh] at q3; simp at q3) s4 (by unfold maxLen at hmax; omega) (fun j x hx => s5 j _ (by rw [List.getElem?_map, hx]; rfl))).mono fun e' w' hy => ?_
  obtain ⟨rfl, rfl⟩ := hy
  have e1 : Eff Tryz.prog ρ fl μ h w μ h w.drew := Eff.drew hr 1
  have j1' : w.drew.heap[rg]? = some (.cells cg 5 (0, 0)) := j1
  have hat : (w.drew.freeze ⟨rg, baseg + off, none⟩ bs.length).heap[rg]? = some (.cells cg 5 (baseg + off, baseg + off + bs.length)) := by
    unfold World.freeze
    rw [if_neg (by omega)]
    simp only [Array.getElem?_modify, if_true, j1', Option.map_some]
    rfl
  have hot : ∀ k, k ≠ rg → (w.drew.freeze ⟨rg, baseg + off, none⟩ bs.length).heap[k]? = w.drew.heap[k]? := fun k hk => by
    unfold World.freeze
    rw [if_neg (by omega)]
    simp only [Array.getElem?_modify]
    rw [if_neg (fun hh => hk hh.symm)]
  have hone : One rg w.drew (w.drew.freeze ⟨rg, baseg + off, none⟩ bs.length) := by
    refine ⟨by unfold World.freeze; rw [if_neg (by omega)]; simp, hot, fun k cur' e' fz' hk => ?_, ⟨by unfold World.freeze; rw [if_neg (by omega)], by unfold World.freeze; rw [if_neg (by omega)], by unfold World.freeze; rw [if_neg (by omega)]⟩⟩
    by_cases hkr : k = rg
    · subst hkr
      rw [j1'] at hk
      obtain ⟨rfl, rfl, rfl⟩ := Obj.cells.inj (Option.some.inj hk)
      exact ⟨_, _, _, hat, rfl⟩
    · exact ⟨cur', e', fz', by rw [hot k hkr]; exact hk, rfl⟩
  have hef := Eff.upd (ab' := .frz l 5) e1.hr m2 hgl rfl hone hat ⟨cg, _, rfl, j2.mono (More.refl μ) (e1.grows.trans hone.grows)⟩
  exact ⟨μ, _, rfl, e1.trans hr hef, rel_lit rfl⟩
def sIxB : List AV → AH → Option (AV × AH)
  | [.lit (.string s), .lit (.int .u8 c)], h => some (.lit (.int .i64 (Lib.indexByte s.data.toList c.toNat.toUInt8)), h)
  | _, _ => none
theorem sIxB_ok (hg : sIxB args h = some (v, h')) (hr : HR Tryz.prog ρ fl μ h w) (ha : rels ρ μ w args args') :
    Calls Tryz.prog 59 args'.toArray w fun e w' => ∃ μ' v', e = .returned v' ∧ Eff Tryz.prog ρ fl μ h w μ' h' w' ∧ rel ρ μ' w' v v' := by
  unfold sIxB at hg
  split at hg
  case h_2 => cases hg
  rename_i s c
  cases hg
  obtain ⟨v1, vs, rfl, r1, r2⟩ := rels_cons_inv ha
  obtain ⟨v2, vs, rfl, r3, r4⟩ := rels_cons_inv r2
  obtain rfl := rels_nil_inv r4
  obtain rfl : v1 = .string s := rel_lit_inv r1
  obtain rfl : v2 = .int .u8 c := rel_lit_inv r3
  refine (Any.strings_IndexByte Tryz.llays137 s c w).mono fun e w' hy => ?_
  obtain ⟨rfl, rfl⟩ := hy
  exact ⟨μ, _, rfl, Eff.refl hr, rel_lit rfl⟩
end Go.Proofs.YtjicijhakcmifaaGreatDoor.Ex
end

section

set_option linter.unusedSimpArgs false
set_option linter.unusedVariables false
namespace Go.Proofs.YtjicijhakcmifaaGreatDoor.Ex
open Go Go.RowKit
theorem follows_mixed : Tryz.prog.follows .mixedOrders = true := by kernel_rfl
theorem bif_some {α : Type} {b : Bool} {x : α} {y : Option α} {z : α} (h : (bif b then some x else y) = some z) : (b = true ∧ x = z) ∨ y = some z := by
  cases b
  · exact .inr h
  · exact .inl ⟨rfl, Option.some.inj h⟩
/-- What the sums of the first kind know: the library's texts. -/
def S01 : Sums := fun f =>
  bif Nat.beq f 57 then some sTrim else
  bif Nat.beq f 112 then some sIndex else
  bif Nat.beq f 86 then some sCount else
  bif Nat.beq f 58 then some sAtoi else
  bif Nat.beq f 17 then some sJoin else
  bif Nat.beq f 16 then some sItoaS else bif Nat.beq f 59 then some sIxB else none
theorem sums_ok01 (ρ : Nat → Value) (fl : Nat) : SumsOK Tryz.prog ρ fl S01 := by
  intro f g args h v h' hs hg μ w args' hr ha
  unfold S01 at hs
  rcases bif_some hs with ⟨h1, rfl⟩ | hs
  · obtain rfl := Nat.eq_of_beq_eq_true h1
    exact sTrim_ok hg hr ha
  rcases bif_some hs with ⟨h1, rfl⟩ | hs
  · obtain rfl := Nat.eq_of_beq_eq_true h1
    exact sIndex_ok hg hr ha
  rcases bif_some hs with ⟨h1, rfl⟩ | hs
  · obtain rfl := Nat.eq_of_beq_eq_true h1
    exact sCount_ok hg hr ha
  rcases bif_some hs with ⟨h1, rfl⟩ | hs
  · obtain rfl := Nat.eq_of_beq_eq_true h1
    exact sAtoi_ok hg hr ha
  rcases bif_some hs with ⟨h1, rfl⟩ | hs
  · obtain rfl := Nat.eq_of_beq_eq_true h1
    exact sJoin_ok hg hr ha
  rcases bif_some hs with ⟨h1, rfl⟩ | hs
  · obtain rfl := Nat.eq_of_beq_eq_true h1
    exact sItoaS_ok hg hr ha
  rcases bif_some hs with ⟨h1, rfl⟩ | hs
  · obtain rfl := Nat.eq_of_beq_eq_true h1
    exact sIxB_ok hg hr ha
  cases hs
theorem closed_c {f n : Nat} (hrun : isTrue (ex Tryz.prog (tabOf Tryz.prog NT0) S01 n (.call f [] none) .nil) = true) (w : World) : Calls Tryz.prog f #[] w fun e w' => e = .returned (.bool true) ∧ Below w.heap.size w w' := by
  obtain ⟨h', hx⟩ := isTrue_inv hrun
  refine (ex_calls (ρ := fun _ => default) (args' := []) tab_sound noNG follows_mixed (sums_ok01 _ _) hx rels_nil).mono fun e w' hy => ?_
  obtain ⟨v', μ', rfl, hb, hv⟩ := hy
  exact ⟨by rw [rel_bool_inv hv], hb⟩
set_option maxRecDepth 100000 in
theorem lives25_run : isTrue (ex Tryz.prog (tabOf Tryz.prog NT0) S01 100000 (.call 15 [] none) .nil) = true := by decide +kernel
/-- 64 noughts. -/
def z64 : List UInt8 := List.replicate 64 48
def zs32 : List AV := List.replicate 32 (.lit (.int .u8 0))
def isHex0 : Option (Out × AH) → Bool
  | some (.ended (.ret (.lit (.string s))) none, _) => decide (s.data.toList = z64)
  | _ => false
def isSha0 : Option (Out × AH) → Bool
  | some (.ended (.ret (.tup [.agg cs, .lit (.bool true)])) none, _) => decide (u8L cs = some (List.replicate 32 0))
  | _ => false
set_option maxRecDepth 100000 in
theorem hex0_run : isHex0 (ex Tryz.prog (tabOf Tryz.prog NT0) S01 100000 (.call 32 [.agg zs32] none) .nil) = true := by decide +kernel
set_option maxRecDepth 100000 in
theorem sha0_run : isSha0 (ex Tryz.prog (tabOf Tryz.prog NT0) S01 100000 (.call 37 [.lit (.string ⟨z64.toArray⟩)] none) .nil) = true := by decide +kernel
theorem rels_lits {ρ : Nat → Value} {μ : Mu} {w : World} : ∀ {l l' : List Value}, rels ρ μ w (l.map AV.lit) l' → l' = l
  | [], l', h => rels_nil_inv h
  | x :: r, l', h => by
    obtain ⟨v, vs, rfl, h1, h2⟩ := rels_cons_inv h
    rw [rel_lit_inv h1, rels_lits h2]
theorem lits_rels {ρ : Nat → Value} {μ : Mu} {w : World} : ∀ {l : List Value}, (∀ x ∈ l, scal x = true) → rels ρ μ w (l.map AV.lit) l
  | [], _ => rels_nil
  | x :: r, h => rels_cons (rel_lit (h x (by simp))) (lits_rels fun y hy => h y (by simp [hy]))
def zv32 : List Value := List.replicate 32 (.int .u8 0)
theorem zs_zv : zs32 = zv32.map AV.lit := by unfold zs32 zv32; rw [List.map_replicate]
theorem zv_scal : ∀ x ∈ zv32, scal x = true := fun x hx => by rw [List.eq_of_mem_replicate hx]; rfl
def sHex0 : List AV → AH → Option (AV × AH)
  | [.agg cs], h => bif decide (u8L cs = some (List.replicate 32 0)) then some (.lit (.string ⟨z64.toArray⟩), h) else none
  | _, _ => none
def sSha0 : List AV → AH → Option (AV × AH)
  | [.lit (.string s)], h => bif decide (s.data.toList = z64) then some (.tup [.agg zs32, .lit (.bool true)], h) else none
  | _, _ => none
theorem sHex0_ok {ρ : Nat → Value} {fl : Nat} {μ : Mu} {h h' : AH} {w : World} {v : AV} {args : List AV} {args' : List Value} (hg : sHex0 args h = some (v, h')) (hr : HR Tryz.prog ρ fl μ h w) (ha : rels ρ μ w args args') :
    Calls Tryz.prog 32 args'.toArray w fun e w' => ∃ μ' v', e = .returned v' ∧ Eff Tryz.prog ρ fl μ h w μ' h' w' ∧ rel ρ μ' w' v v' := by
  unfold sHex0 at hg
  split at hg
  case h_2 => cases hg
  rename_i cs
  cases hc : decide (u8L cs = some (List.replicate 32 0)) with
  | false => rw [hc] at hg; cases hg
  | true =>
  rw [hc] at hg
  cases hg
  have hcs : cs = zs32 := (u8L_eq (of_decide_eq_true hc)).trans (by rw [List.map_replicate]; rfl)
  subst hcs
  obtain ⟨v1, vs, rfl, r1, r2⟩ := rels_cons_inv ha
  obtain rfl := rels_nil_inv r2
  unfold rel at r1
  obtain ⟨l, rfl, r3⟩ := r1
  rw [zs_zv] at r3
  obtain rfl := rels_lits r3
  have hrun := hex0_run
  unfold isHex0 at hrun
  split at hrun
  case h_2 => cases hrun
  rename_i s hx he
  have hs := of_decide_eq_true hrun
  refine (ex_calls (ρ := fun _ => default) (args' := [.agg zv32.toArray]) tab_sound noNG follows_mixed (sums_ok01 _ _) he (rels_cons (by unfold rel; exact ⟨zv32, rfl, zs_zv ▸ lits_rels zv_scal⟩) rels_nil)).mono fun e w' hy => ?_
  obtain ⟨v', μ', rfl, hb, hv⟩ := hy
  refine ⟨μ, _, rfl, Eff.below hr hb, ?_⟩
  rw [rel_lit_inv hv, ← hs]
  exact rel_lit rfl
theorem sSha0_ok {ρ : Nat → Value} {fl : Nat} {μ : Mu} {h h' : AH} {w : World} {v : AV} {args : List AV} {args' : List Value} (hg : sSha0 args h = some (v, h')) (hr : HR Tryz.prog ρ fl μ h w) (ha : rels ρ μ w args args') :
    Calls Tryz.prog 37 args'.toArray w fun e w' => ∃ μ' v', e = .returned v' ∧ Eff Tryz.prog ρ fl μ h w μ' h' w' ∧ rel ρ μ' w' v v' := by
  unfold sSha0 at hg
  split at hg
  case h_2 => cases hg
  rename_i s
  cases hc : decide (s.data.toList = z64) with
  | false => rw [hc] at hg; cases hg
  | true =>
  rw [hc] at hg
  cases hg
  have hs : s = ⟨z64.toArray⟩ := by rw [← of_decide_eq_true hc]
  subst hs
  obtain ⟨v1, vs, rfl, r1, r2⟩ := rels_cons_inv ha
  obtain rfl := rels_nil_inv r2
  obtain rfl : v1 = .string ⟨z64.toArray⟩ := rel_lit_inv r1
  have hrun := sha0_run
  unfold isSha0 at hrun
  split at hrun
  case h_2 => cases hrun
  rename_i cs hx he
  have hcs : cs = zs32 := (u8L_eq (of_decide_eq_true hrun)).trans (by rw [List.map_replicate]; rfl)
  rw [hcs] at he
  refine (ex_calls (ρ := fun _ => default) (args' := [.string ⟨z64.toArray⟩]) tab_sound noNG follows_mixed (sums_ok01 _ _) he (rels_cons (rel_lit rfl) rels_nil)).mono fun e w' hy => ?_
  obtain ⟨v', μ', rfl, hb, hv⟩ := hy
  unfold rel at hv
  obtain ⟨l, rfl, r3⟩ := hv
  obtain ⟨v3, vs, rfl, r4, r5⟩ := rels_cons_inv r3
  obtain ⟨v5, vs, rfl, r6, r7⟩ := rels_cons_inv r5
  obtain rfl := rels_nil_inv r7
  obtain rfl : v5 = .bool true := rel_lit_inv r6
  unfold rel at r4
  obtain ⟨l, rfl, r8⟩ := r4
  rw [zs_zv] at r8
  obtain rfl := rels_lits r8
  refine ⟨μ, _, rfl, Eff.below hr hb, ?_⟩
  unfold rel
  exact ⟨_, rfl, rels_cons (by unfold rel; exact ⟨zv32, rfl, zs_zv ▸ lits_rels zv_scal⟩) (rels_cons (rel_lit rfl) rels_nil)⟩
def S0 : Sums := fun f => bif Nat.beq f 15 then some sTrue else bif Nat.beq f 16 then some sItoa else bif Nat.beq f 21 then some sSortT else bif Nat.beq f 24 then some sSortF else bif Nat.beq f 53 then some sCopyCheck else bif Nat.beq f 33 then some sBString else bif Nat.beq f 32 then some sHex0 else bif Nat.beq f 37 then some sSha0 else S01 f
/-- Values from outside: where the library's table lies, and how long it is. -/
def ρT : Nat → Value := fun i => bif Nat.beq i 1000000 then .int .i64 1 else bif Nat.beq i 1000001 then .int .i64 20 else default
theorem sums_ok (fl : Nat) : SumsOK Tryz.prog ρT fl S0 := by
  intro f g args h v h' hs hg μ w args' hr ha
  unfold S0 at hs
  rcases bif_some hs with ⟨h1, rfl⟩ | hs
  · obtain rfl := Nat.eq_of_beq_eq_true h1
    exact sTrue_ok (closed_c lives25_run) hg hr ha
  rcases bif_some hs with ⟨h1, rfl⟩ | hs
  · obtain rfl := Nat.eq_of_beq_eq_true h1
    exact sItoa_ok rfl rfl hg hr ha
  rcases bif_some hs with ⟨h1, rfl⟩ | hs
  · obtain rfl := Nat.eq_of_beq_eq_true h1
    exact sSortT_ok hg hr ha
  rcases bif_some hs with ⟨h1, rfl⟩ | hs
  · obtain rfl := Nat.eq_of_beq_eq_true h1
    exact sSortF_ok hg hr ha
  rcases bif_some hs with ⟨h1, rfl⟩ | hs
  · obtain rfl := Nat.eq_of_beq_eq_true h1
    exact sCopyCheck_ok hg hr ha
  rcases bif_some hs with ⟨h1, rfl⟩ | hs
  · obtain rfl := Nat.eq_of_beq_eq_true h1
    exact sBString_ok hg hr ha
  rcases bif_some hs with ⟨h1, rfl⟩ | hs
  · obtain rfl := Nat.eq_of_beq_eq_true h1
    exact sHex0_ok hg hr ha
  rcases bif_some hs with ⟨h1, rfl⟩ | hs
  · obtain rfl := Nat.eq_of_beq_eq_true h1
    exact sSha0_ok hg hr ha
  · exact sums_ok01 ρT fl f g args h v h' hs hg μ w args' hr ha
/-! Calls of what is summed up. -/
section
variable {H : AH} {Q : AV → AH → Prop}
end
end Go.Proofs.YtjicijhakcmifaaGreatDoor.Ex
end

section

set_option linter.unusedSimpArgs false
set_option linter.unusedVariables false
set_option maxRecDepth 10000
namespace Go.Proofs.YtjicijhakcmifaaGreatDoor.Ex
open Go
/-- A number in a list of numbers. -/
theorem IsSl.int {T : TT} {F : Nat → Prop} {h : AH} {v : AV} {xs : List Int} {e : TypeId} (hs : IsSl RInt F h v xs) (hA : isAggT T e = some false) (hS : sizeT T e = some 1) {i : Nat} (hi : i < xs.length) :
    loadA T h e (slB v) (slO v + i) = some (.lit (.int .i64 (xs.getD i 0))) := by
  obtain ⟨c, ⟨rfl, _⟩, h2⟩ := hs.get (T := T) (List.getElem?_eq_getElem hi)
  have := h2 e 1 0 hS (by omega) (by show 0 + 1 ≤ 1; omega)
  simp only [RInt, Nat.mul_one, Nat.add_zero] at this
  rw [this]
  simp [ldL, hA, hS, List.getD_eq_getElem?_getD, List.getElem?_eq_getElem hi]
theorem IsSl.empty {α : Type} {R : Rep α} {F : Nat → Prop} {H : AH} {v : AV} {xs : List α} (h : IsSl R F H v xs) (hn : isNil v = true) : xs = [] := by
  refine List.eq_nil_of_length_eq_zero ?_
  rw [← h.lenD]
  unfold isNil at hn
  split at hn
  · rfl
  · cases hn
end Go.Proofs.YtjicijhakcmifaaGreatDoor.Ex
end

section

set_option linter.unusedSimpArgs false
set_option linter.unusedVariables false
namespace Go.Proofs.YtjicijhakcmifaaGreatDoor.Ex
open Go
theorem loop_eq (bs : ByteArray) : ∀ (k i : Nat) (r : List UInt8), bs.size - i = k → ByteArray.toList.loop bs i r = r.reverse ++ bs.data.toList.drop i := by
  intro k
  induction k with
  | zero =>
    intro i r h
    rw [ByteArray.toList.loop, if_neg (by omega)]
    have : bs.data.toList.drop i = [] := List.drop_eq_nil_iff.2 (by rw [Array.length_toList]; show bs.size ≤ i; omega)
    rw [this, List.append_nil]
  | succ k ih =>
    intro i r h
    have hi : i < bs.data.toList.length := by rw [Array.length_toList]; show i < bs.size; omega
    rw [ByteArray.toList.loop, if_pos (by omega), ih (i + 1) _ (by omega), List.reverse_cons, List.append_assoc, List.drop_eq_getElem_cons hi]
    congr 2
    show [bs.get! i] ++ _ = _
    have : bs.get! i = bs.data.toList[i] := by
      show bs.data[i]! = _
      rw [getElem!_pos bs.data i (by rw [Array.length_toList] at hi; exact hi)]
      simp
    rw [this]
    rfl
theorem toList_eq (l : List UInt8) : (⟨l.toArray⟩ : ByteArray).toList = l := by
  unfold ByteArray.toList
  rw [loop_eq _ _ 0 [] rfl]
  simp
def isStrV : AV → Bool
  | .lit (.string _) => true
  | _ => false
def strV : AV → List UInt8
  | .lit (.string s) => s.data.toList
  | _ => []
theorem isStrV_out {v : AV} (h : isStrV v = true) : v = .lit (.string ⟨(strV v).toArray⟩) := by
  unfold isStrV at h
  split at h
  · rfl
  · cases h
def isIntV : AV → Bool
  | .lit (.int _ _) => true
  | _ => false
def intV : AV → Int
  | .lit (.int _ n) => n
  | _ => 0
theorem isIntV_out {v : AV} (h : isIntV v = true) : ∃ k, v = .lit (.int k (intV v)) := by
  unfold isIntV at h
  split at h
  · exact ⟨_, rfl⟩
  · cases h
theorem isIntV_lit {k : IntKind} {n : Int} : isIntV (.lit (.int k n)) = true := rfl
theorem intV_lit {k : IntKind} {n : Int} : intV (.lit (.int k n)) = n := rfl
theorem isStrV_lit {s : ByteArray} : isStrV (.lit (.string s)) = true := rfl
theorem strV_lit {l : List UInt8} : strV (.lit (.string ⟨l.toArray⟩)) = l := rfl
theorem isStrT_out {N : NT} {e : TypeId} {P : Program} (hT : isStrT (tabOf P N) e = true) : P.underlying e = some .string := by
  have hu : und (tabOf P N) e = some .string := by
    unfold isStrT at hT
    split at hT
    · assumption
    · cases hT
  have := und_tab hu
  cases hq : P.underlying e with
  | none => rw [hq] at this; cases this
  | some x => rw [hq] at this; exact congrArg some this
section
variable {P : Program} {N : NT} {t : TM} {h : AH} {d : Option Tmp} {ty e : TypeId} {ps : String} {af : Array Edge} {g : Option (Nat × Bool)}
theorem bsize (l : List UInt8) : (⟨l.toArray⟩ : ByteArray).size = l.length := by show l.toArray.size = _; simp
theorem a_slen {i ty' : Nat} (hs : isStrV (t.get i) = true) (hT : isStrT (tabOf P N) ty' = true) : aop P (tabOf P N) ⟨d, .call ⟨.builtin .len, #[.tmp i], #[ty']⟩, ty, ps, af, g⟩ t h = some (.val (.lit (.int .i64 ((strV (t.get i)).length : Nat))), h) := by
  have hP := isStrT_out hT
  have hv := isStrV_out hs
  rw [a_call]
  have he : litEnv t (.tmp i) = .string ⟨(strV (t.get i)).toArray⟩ := by
    have : evalA t (.tmp i) = some (.lit (.string ⟨(strV (t.get i)).toArray⟩)) := by rw [ev_tmp]; exact congrArg some hv
    simp [litEnv, this, toVal]
  have hl : litOp P ⟨d, .call ⟨.builtin .len, #[.tmp i], #[ty']⟩, ty, ps, af, g⟩ t = some (.val (.lit (.int .i64 ((strV (t.get i)).length : Nat)))) := by
    have hev : evalA t (.tmp i) = some (.lit (.string ⟨(strV (t.get i)).toArray⟩)) := by rw [ev_tmp]; exact congrArg some hv
    simp only [litOp, notSelect, Op.operands, Call.operands, execOp, resolve]
    simp [litAll, hev, toVal, invoke, builtin, Builtin.len_, he, underlying]
    rw [pur_prog, hP]
    simp only [bsize]
    rfl
  simp only [aCall, aBuiltin, evals, ev_tmp, orLit, hl]
  generalize strV (t.get i) = l at hv ⊢
  rw [hv]
/-- A byte of a text. -/
def sixM (h : AH) (r : AR) (l : List UInt8) : Option AV → AR
  | some (.lit (.int _ n)) => if 0 ≤ n then match l[n.toNat]? with
    | some b => some (.val (.lit (.int .u8 (b.toNat : Int))), h)
    | none => r
    else r
  | _ => r
theorem a_six {i : Nat} {y : Operand} (hs : isStrV (t.get i) = true) (hT : isStrT (tabOf P N) e = true) : aop P (tabOf P N) ⟨d, .index e (.tmp i) y, ty, ps, af, g⟩ t h = sixM h (aIdxR P (tabOf P N) ⟨d, .index e (.tmp i) y, ty, ps, af, g⟩ t h e (.tmp i) y) (strV (t.get i)) (evalA t y) := by
  have hv := isStrV_out hs
  unfold sixM
  split
  · rename_i k n hy
    split
    · rename_i h0
      split
      · rename_i b hb
        refine idx_str hT (by rw [ev_tmp]; exact congrArg some hv) hy ?_
        unfold strAt
        rw [if_pos h0]
        show ((⟨(strV (t.get i)).toArray⟩ : ByteArray).data[n.toNat]?).map _ = _
        show ((strV (t.get i)).toArray[n.toNat]?).map _ = _
        rw [List.getElem?_toArray, hb]
        rfl
      · rfl
    · rfl
  · rfl
theorem six_int {r : AR} {l : List UInt8} {k : IntKind} {n : Int} : sixM h r l (some (.lit (.int k n))) = if 0 ≤ n then match l[n.toNat]? with
    | some b => some (.val (.lit (.int .u8 (b.toNat : Int))), h)
    | none => r
    else r := rfl
/-- A part of a text. -/
def sslM (h : AH) (r : AR) (l : List UInt8) (lo hi : Int) : AR := if 0 ≤ lo ∧ lo ≤ hi ∧ hi ≤ (l.length : Int) then some (.val (.lit (.string ⟨((l.take hi.toNat).drop lo.toNat).toArray⟩)), h) else r
def aSlS (P : Program) (T : TT) (o : Oper) (t : TM) (h : AH) (e : TypeId) (x : Operand) (lo hi : Option Operand) : AR := aSlice P T o t h e x lo hi none
theorem pur_slice {N : NT} {l : List UInt8} {lo hi : Option Value} {a b : Int} (hT : isStrT (tabOf P N) e = true) (hlo : (lo = none ∧ a = 0) ∨ ∃ k, lo = some (.int k a)) (hhi : (hi = none ∧ b = l.length) ∨ ∃ k, hi = some (.int k b)) (h0 : 0 ≤ a ∧ a ≤ b ∧ b ≤ (l.length : Int)) :
    pur P (Instr.sliceAt e (.string ⟨l.toArray⟩) lo hi none) = some (.ok (.string ⟨((l.take b.toNat).drop a.toNat).toArray⟩)) := by
  have hP := isStrT_out hT
  have hx : (⟨l.toArray⟩ : ByteArray).extract a.toNat b.toNat = ⟨((l.take b.toNat).drop a.toNat).toArray⟩ := by
    have : ((⟨l.toArray⟩ : ByteArray).extract a.toNat b.toNat).data = ((l.take b.toNat).drop a.toNat).toArray := by
      rw [ByteArray.data_extract]
      show (l.toArray).extract a.toNat b.toNat = _
      rw [List.extract_toArray, List.extract_eq_take_drop]
      congr 1
      rw [List.drop_take]
    exact ByteArray.ext this
  have u1 : ∀ {α : Type} (f : TypeDesc → Sem α), pur P (underlying e >>= f) = pur P (f .string) := fun f => by
    show pur P ((match P.underlying e with | some d => pure d | none => stuck "no such type") >>= f) = _
    rw [hP]
    rfl
  have hb' : Instr.sliceBounds false (⟨l.toArray⟩ : ByteArray).size (⟨l.toArray⟩ : ByteArray).size lo hi none = pure (a.toNat, b.toNat, l.length) := by
    rw [bsize]
    unfold Instr.sliceBounds
    rcases hlo with ⟨rfl, rfl⟩ | ⟨k, rfl⟩ <;> rcases hhi with ⟨rfl, rfl⟩ | ⟨k', rfl⟩
    · rfl
    · have hb2 : 0 ≤ b ∧ b ≤ (l.length : Int) := ⟨by omega, h0.2.2⟩
      simp [Instr.sliceBound, asIntOf, hb2]
    · have ha2 : 0 ≤ a ∧ a ≤ ((l.length : Nat) : Int) := ⟨by omega, by omega⟩
      simp [Instr.sliceBound, asIntOf, ha2]
    · have hb2 : 0 ≤ b ∧ b ≤ (l.length : Int) := ⟨by omega, h0.2.2⟩
      have ha2 : 0 ≤ a ∧ a ≤ b := ⟨by omega, by omega⟩
      have hm : max b 0 = b := by omega
      simp [Instr.sliceBound, asIntOf, hb2, ha2, hm]
  unfold Instr.sliceAt
  show pur P (underlying e >>= _) = _
  rw [u1]
  show pur P (Instr.slice e (.string ⟨l.toArray⟩) lo hi none) = _
  unfold Instr.slice
  show pur P (underlying e >>= _) = _
  rw [u1]
  simp only [Option.isSome_none, hb', Bool.false_eq_true, if_false]
  show some (PR.ok (Value.string ((⟨l.toArray⟩ : ByteArray).extract a.toNat b.toNat))) = _
  rw [hx]
/-- What an expression of a part of a text gives. -/
theorem slice_str {N : NT} {i : Nat} {lo hi : Option Operand} {a b : Int} (hT : isStrT (tabOf P N) e = true) (hs : isStrV (t.get i) = true) (hlo : (lo = none ∧ a = 0) ∨ ∃ y k, lo = some y ∧ evalA t y = some (.lit (.int k a))) (hhi : (hi = none ∧ b = (strV (t.get i)).length) ∨ ∃ y k, hi = some y ∧ evalA t y = some (.lit (.int k b))) (h0 : 0 ≤ a ∧ a ≤ b ∧ b ≤ ((strV (t.get i)).length : Int)) :
    aop P (tabOf P N) ⟨d, .slice e (.tmp i) lo hi none, ty, ps, af, g⟩ t h = some (.val (.lit (.string ⟨(((strV (t.get i)).take b.toNat).drop a.toNat).toArray⟩)), h) := by
  have hv := isStrV_out hs
  have hx : evalA t (.tmp i) = some (.lit (.string ⟨(strV (t.get i)).toArray⟩)) := by rw [ev_tmp]; exact congrArg some hv
  have ex : litEnv t (.tmp i) = .string ⟨(strV (t.get i)).toArray⟩ := by simp [litEnv, hx, toVal]
  generalize strV (t.get i) = l at *
  have h1 : litOp P ⟨d, .slice e (.tmp i) lo hi none, ty, ps, af, g⟩ t = some (.val (.lit (.string ⟨((l.take b.toNat).drop a.toNat).toArray⟩))) := by
    have fin : ∀ {lo' hi' : Option Value}, ((lo' = none ∧ a = 0) ∨ ∃ k, lo' = some (.int k a)) → ((hi' = none ∧ b = l.length) ∨ ∃ k, hi' = some (.int k b)) → ∀ (f : Value → Sem Next), pur P (Instr.sliceAt e (.string ⟨l.toArray⟩) lo' hi' none >>= f) = pur P (f (.string ⟨((l.take b.toNat).drop a.toNat).toArray⟩)) := fun {lo' hi'} q1 q2 f => by
      have he := pur_slice (P := P) (e := e) (l := l) hT q1 q2 h0
      generalize Instr.sliceAt e (.string ⟨l.toArray⟩) lo' hi' none = s at he
      induction s with
      | pure x => simp [pur] at he; subst he; rfl
      | halt r => cases r <;> simp [pur] at he
      | program k ih => exact ih P he
      | mark e k ih => exact ih he
      | _ => simp [pur] at he
    unfold litOp
    rcases hlo with ⟨rfl, rfl⟩ | ⟨y, k, rfl, hy⟩ <;> rcases hhi with ⟨rfl, rfl⟩ | ⟨y', k', rfl, hy'⟩
    · rw [if_pos (by simp [notSelect, Op.operands, litAll, hx, toVal])]
      simp only [execOp, ex, Option.map_none]
      exact congrArg ofPR (fin (.inl ⟨rfl, rfl⟩) (.inl ⟨rfl, rfl⟩) _)
    · rw [if_pos (by simp [notSelect, Op.operands, litAll, hx, hy', toVal])]
      have e' : litEnv t y' = .int k' b := by simp [litEnv, hy', toVal]
      simp only [execOp, ex, Option.map_none, Option.map_some, e']
      exact congrArg ofPR (fin (.inl ⟨rfl, rfl⟩) (.inr ⟨_, rfl⟩) _)
    · rw [if_pos (by simp [notSelect, Op.operands, litAll, hx, hy, toVal])]
      have e' : litEnv t y = .int k a := by simp [litEnv, hy, toVal]
      simp only [execOp, ex, Option.map_none, Option.map_some, e']
      exact congrArg ofPR (fin (.inr ⟨_, rfl⟩) (.inl ⟨rfl, rfl⟩) _)
    · rw [if_pos (by simp [notSelect, Op.operands, litAll, hx, hy, hy', toVal])]
      have e1 : litEnv t y = .int k a := by simp [litEnv, hy, toVal]
      have e2 : litEnv t y' = .int k' b := by simp [litEnv, hy', toVal]
      simp only [execOp, ex, Option.map_none, Option.map_some, e1, e2]
      exact congrArg ofPR (fin (.inr ⟨_, rfl⟩) (.inr ⟨_, rfl⟩) _)
  show aSlice _ _ _ _ _ _ _ _ _ _ = _
  unfold aSlice orLit
  rw [h1]
theorem a_ssl_hi {i j : Nat} (hT : isStrT (tabOf P N) e = true) (hs : isStrV (t.get i) = true) (hj : isIntV (t.get j) = true) :
    aop P (tabOf P N) ⟨d, .slice e (.tmp i) none (some (.tmp j)) none, ty, ps, af, g⟩ t h = sslM h (aSlS P (tabOf P N) ⟨d, .slice e (.tmp i) none (some (.tmp j)) none, ty, ps, af, g⟩ t h e (.tmp i) none (some (.tmp j))) (strV (t.get i)) 0 (intV (t.get j)) := by
  unfold sslM
  split
  · rename_i h0
    obtain ⟨k, hk⟩ := isIntV_out hj
    exact slice_str hT hs (.inl ⟨rfl, rfl⟩) (.inr ⟨_, k, rfl, by rw [ev_tmp, hk]; rfl⟩) h0
  · rfl
theorem a_ssl_lo {i j : Nat} (hT : isStrT (tabOf P N) e = true) (hs : isStrV (t.get i) = true) (hj : isIntV (t.get j) = true) :
    aop P (tabOf P N) ⟨d, .slice e (.tmp i) (some (.tmp j)) none none, ty, ps, af, g⟩ t h = sslM h (aSlS P (tabOf P N) ⟨d, .slice e (.tmp i) (some (.tmp j)) none none, ty, ps, af, g⟩ t h e (.tmp i) (some (.tmp j)) none) (strV (t.get i)) (intV (t.get j)) ((strV (t.get i)).length : Nat) := by
  unfold sslM
  split
  · rename_i h0
    obtain ⟨k, hk⟩ := isIntV_out hj
    exact slice_str hT hs (.inr ⟨_, k, rfl, by rw [ev_tmp, hk]; rfl⟩) (.inl ⟨rfl, rfl⟩) h0
  · rfl
/-! Comparison, and what is put together. -/
theorem pur_seq {a b : List UInt8} : pur P (binOp .eql e (Value.string ⟨a.toArray⟩) (Value.string ⟨b.toArray⟩)) = some (.ok (Value.bool (a == b))) := by
  have hd : ((⟨a.toArray⟩ : ByteArray).toList == (⟨b.toArray⟩ : ByteArray).toList) = (a == b) := by rw [toList_eq, toList_eq]
  show pur P (pure (Value.bool ((⟨a.toArray⟩ : ByteArray).toList == (⟨b.toArray⟩ : ByteArray).toList))) = _
  rw [hd]
  rfl
theorem pur_sne {a b : List UInt8} : pur P (binOp .neq e (Value.string ⟨a.toArray⟩) (Value.string ⟨b.toArray⟩)) = some (.ok (Value.bool (!(a == b)))) := by
  have hd : ((⟨a.toArray⟩ : ByteArray).toList == (⟨b.toArray⟩ : ByteArray).toList) = (a == b) := by rw [toList_eq, toList_eq]
  show pur P (pure (Value.bool !((⟨a.toArray⟩ : ByteArray).toList == (⟨b.toArray⟩ : ByteArray).toList))) = _
  rw [hd]
  rfl
theorem pur_sadd {a b : List UInt8} (hs : a.length + b.length ≤ 4611686018427387904) : pur P (binOp .add e (Value.string ⟨a.toArray⟩) (Value.string ⟨b.toArray⟩)) = some (.ok (Value.string ⟨(a ++ b).toArray⟩)) := by
  show pur P (if (((⟨a.toArray⟩ : ByteArray).size + (⟨b.toArray⟩ : ByteArray).size : Nat) : Int) > IntKind.i64.max then _ else pure (Value.string ((⟨a.toArray⟩ : ByteArray) ++ ⟨b.toArray⟩))) = _
  rw [if_neg (by rw [bsize, bsize]; show ¬ ((9223372036854775807 : Int) < _); omega)]
  have : (⟨a.toArray⟩ : ByteArray) ++ ⟨b.toArray⟩ = ⟨(a ++ b).toArray⟩ := ByteArray.ext (by rw [ByteArray.data_append, List.append_toArray])
  rw [this]
  rfl
theorem ofPV_str {s : ByteArray} : ofPV h (some (.ok (Value.string s))) = some (.val (.lit (.string s)), h) := rfl
end
end Go.Proofs.YtjicijhakcmifaaGreatDoor.Ex
end

section

set_option linter.unusedSimpArgs false
set_option linter.unusedVariables false
set_option maxRecDepth 10000
namespace Go.Proofs.YtjicijhakcmifaaGreatDoor.Ex
open Go
section
variable {P : Program} {T : TT} {t : TM} {h : AH} {d : Option Tmp} {ty e : TypeId} {ps : String} {af : Array Edge} {g : Option (Nat × Bool)}
theorem a_mkmT : aop P T ⟨d, .makeMap e none, ty, ps, af, g⟩ t h = some (.val (.mp h.n), h.push (.map [] 0)) := rfl
theorem a_lookT {m k : Operand} {ok : Bool} : aop P T ⟨d, .lookup e m k ok, ty, ps, af, g⟩ t h = aLookup T t h e m k ok := rfl
theorem a_mupdT {m k x : Operand} : aop P T ⟨d, .mapUpdate e m k x, ty, ps, af, g⟩ t h = aUpdate T t h e m k x := rfl
end
def kS (k : List UInt8) : Value := .string ⟨k.toArray⟩
/-- The keys are these texts, each with a number from 1 to M. -/
def Cnt : List AE → List (List UInt8) → Nat → Prop
  | [], [], _ => True
  | e :: es, k :: ks, M => (e.key = kS k ∧ ∃ n : Int, e.val = .lit (.int .i64 n) ∧ 1 ≤ n ∧ n ≤ M) ∧ Cnt es ks M
  | _, _, _ => False
theorem Cnt.mono {M M' : Nat} (hM : M ≤ M') : ∀ {es : List AE} {ks : List (List UInt8)}, Cnt es ks M → Cnt es ks M'
  | [], [], _ => trivial
  | e :: es, k :: ks, h => by
    obtain ⟨⟨h1, n, h2, h3, h4⟩, h5⟩ := h
    exact ⟨⟨h1, n, h2, h3, by omega⟩, Cnt.mono hM h5⟩
  | [], _ :: _, h => h.elim
  | _ :: _, [], h => h.elim
theorem Cnt.snoc {M c : Nat} {k : List UInt8} (hM : 1 ≤ M) : ∀ {es : List AE} {ks : List (List UInt8)}, Cnt es ks M → Cnt (es ++ [{ key := kS k, val := .lit (.int .i64 1), born := c }]) (ks ++ [k]) M
  | [], [], _ => ⟨⟨rfl, 1, rfl, by omega, by omega⟩, trivial⟩
  | e :: es, k' :: ks, h => ⟨h.1, Cnt.snoc hM h.2⟩
  | [], _ :: _, h => h.elim
  | _ :: _, [], h => h.elim
theorem same_kS (a b : List UInt8) : Instr.sameNow .string (kS a) (kS b) = some (a == b) := by
  have : ((⟨a.toArray⟩ : ByteArray) == ⟨b.toArray⟩) = (a == b) := by
    first
      | (show (a.toArray == b.toArray) = _; simp; done)
      | (show ((⟨a.toArray⟩ : ByteArray).toList == (⟨b.toArray⟩ : ByteArray).toList) = _; rw [toList_eq, toList_eq])
  exact congrArg some this
theorem find_no {k : List UInt8} {M : Nat} : ∀ {es : List AE} {ks : List (List UInt8)} (i : Nat), Cnt es ks M → k ∉ ks → findA .string (kS k) es i = some none
  | [], [], _, _, _ => rfl
  | e :: es, k' :: ks, i, h, hn => by
    have hkb : (k == k') = false := beq_eq_false_iff_ne.2 fun hh => hn (by simp [hh])
    unfold findA
    rw [h.1.1, same_kS, hkb]
    exact find_no (i + 1) h.2 fun hm => hn (by simp [hm])
  | [], _ :: _, _, h, _ => h.elim
  | _ :: _, [], _, h, _ => h.elim
theorem find_app {k : List UInt8} {M : Nat} {e : AE} : ∀ {es : List AE} {ks : List (List UInt8)} (i : Nat), Cnt es ks M → k ∉ ks → findA .string (kS k) (es ++ [e]) i = findA .string (kS k) [e] (i + es.length)
  | [], [], _, _, _ => rfl
  | e' :: es, k' :: ks, i, h, hn => by
    have hkb : (k == k') = false := beq_eq_false_iff_ne.2 fun hh => hn (by simp [hh])
    rw [List.cons_append]
    unfold findA
    rw [h.1.1, same_kS, hkb]
    simp only
    rw [find_app (i + 1) h.2 fun hm => hn (by simp [hm])]
    rw [List.length_cons, show i + 1 + es.length = i + (es.length + 1) by omega]
    unfold findA
    rfl
  | [], _ :: _, _, h, _ => h.elim
  | _ :: _, [], _, h, _ => h.elim
theorem find_yes {k : List UInt8} {M : Nat} : ∀ {es : List AE} {ks : List (List UInt8)} (i : Nat), Cnt es ks M → k ∈ ks →
    ∃ j, ∃ n : Int, 1 ≤ n ∧ n ≤ M ∧ findA .string (kS k) es i = some (some (i + j, .lit (.int .i64 n))) ∧
      Cnt (es.modify j fun e => { e with key := kS k, val := .lit (.int .i64 (n + 1)) }) ks (M + 1) ∧
      findA .string (kS k) (es.modify j fun e => { e with key := kS k, val := .lit (.int .i64 (n + 1)) }) i = some (some (i + j, .lit (.int .i64 (n + 1))))
  | [], [], _, _, hm => by cases hm
  | e :: es, k' :: ks, i, h, hm => by
    by_cases hk : k = k'
    · subst hk
      obtain ⟨⟨h1, n, h2, h3, h4⟩, h5⟩ := h
      refine ⟨0, n, h3, h4, ?_, ?_, ?_⟩
      · unfold findA
        rw [h1, same_kS, beq_self_eq_true, h2]
        rfl
      · rw [List.modify_zero_cons]
        exact ⟨⟨rfl, n + 1, rfl, by omega, by omega⟩, h5.mono (by omega)⟩
      · rw [List.modify_zero_cons]
        unfold findA
        simp only [same_kS, beq_self_eq_true]
        rfl
    · have hkb : (k == k') = false := beq_eq_false_iff_ne.2 hk
      obtain ⟨j, n, r1, r2, r3, r4, r5⟩ := find_yes (i + 1) h.2 (by rcases List.mem_cons.1 hm with h | h; exact absurd h hk; exact h)
      refine ⟨j + 1, n, r1, r2, ?_, ?_, ?_⟩
      · unfold findA
        rw [h.1.1, same_kS, hkb]
        simp only
        rw [r3]
        congr 3
        omega
      · rw [List.modify_succ_cons]
        obtain ⟨⟨h1, m, h2, h3, h4⟩, h5⟩ := h
        exact ⟨⟨h1, m, h2, h3, by omega⟩, r4⟩
      · rw [List.modify_succ_cons]
        unfold findA
        rw [h.1.1, same_kS, hkb]
        simp only
        rw [r5]
        congr 3
        omega
  | [], _ :: _, _, h, _ => h.elim
  | _ :: _, [], _, h, _ => h.elim
section
variable {T : TT} {t kt et : TypeId} {h : AH} {b : Nat} {es : List AE} {c M : Nat} {ks : List (List UInt8)}
theorem findT_str {k : List UInt8} (hu : und T t = some (.map kt et)) (hi : und T kt = some .string) : findT T t (kS k) es = findA .string (kS k) es 0 := by
  unfold findT
  rw [hu]
  simp only
  unfold und at hi
  cases hT : T kt with
  | none => rw [hT] at hi; cases hi
  | some i =>
    rw [hT] at hi
    simp only [Option.map_some, Option.some.injEq] at hi
    simp only [hi]
    rfl
/-- A text is counted once more. -/
theorem inc_x (k : List UInt8) (hu : und T t = some (.map kt et)) (hi : und T kt = some .string) (hz : zeroT T et = some (.lit (.int .i64 0))) (hb : h.at b = some (.map es c)) (hC : Cnt es ks M) :
    ∃ n : Int, 0 ≤ n ∧ n ≤ M ∧ (n = 0 ↔ k ∉ ks) ∧ lookupA T h t (.mp b) (.lit (.string ⟨k.toArray⟩)) false = some (.lit (.int .i64 n)) ∧
      ∃ es' c' ks', updateA T h t (.mp b) (.lit (.string ⟨k.toArray⟩)) (.lit (.int .i64 (n + 1))) = some (h.put b (.map es' c')) ∧ Cnt es' ks' (M + 1) ∧ (∀ x, x ∈ ks' ↔ x ∈ ks ∨ x = k) ∧
        ∀ h' : AH, h'.at b = some (.map es' c') → lookupA T h' t (.mp b) (.lit (.string ⟨k.toArray⟩)) false = some (.lit (.int .i64 (n + 1))) := by
  by_cases hk : k ∈ ks
  · obtain ⟨j, n, r1, r2, r3, r4, r5⟩ := find_yes (k := k) 0 hC hk
    refine ⟨n, by omega, r2, ⟨fun h0 => by omega, fun hn => absurd hk hn⟩, ?_, _, c, ks, ?_, r4, fun x => ⟨.inl, fun h => by rcases h with h | rfl; exact h; exact hk⟩, fun h' hb' => ?_⟩
    · have r3 : findA .string (Value.string ⟨k.toArray⟩) es 0 = _ := r3
      have f := findT_str (es := es) (k := k) hu hi
      unfold kS at f
      unfold lookupA
      simp only [keyOf, entsA, hb, elemT, hu, f, r3, hz]
      rfl
    · have r3 : findA .string (Value.string ⟨k.toArray⟩) es 0 = _ := r3
      have f := findT_str (es := es) (k := k) hu hi
      unfold kS at f
      unfold updateA
      simp only [keyOf, hb, f, r3, Nat.zero_add]
      rfl
    · have f := findT_str (es := es.modify j fun e => { e with key := kS k, val := .lit (.int .i64 (n + 1)) }) (k := k) hu hi
      rw [r5] at f
      unfold lookupA
      simp only [keyOf, entsA, hb', elemT, hu, hz]
      rw [show Value.string ⟨k.toArray⟩ = kS k from rfl, f]
      rfl
  · have r3 := find_no (k := k) 0 hC hk
    have f := findT_str (es := es) (k := k) hu hi
    rw [r3] at f
    have hC' : Cnt (es ++ [{ key := kS k, val := .lit (.int .i64 (0 + 1)), born := c }]) (ks ++ [k]) (M + 1) := (hC.mono (Nat.le_succ M)).snoc (by omega)
    refine ⟨0, by omega, by omega, ⟨fun _ => hk, fun _ => rfl⟩, ?_, _, c + 1, ks ++ [k], ?_, hC', fun x => by simp, fun h' hb' => ?_⟩
    · unfold lookupA
      simp only [keyOf, entsA, hb, elemT, hu, hz]
      rw [show Value.string ⟨k.toArray⟩ = kS k from rfl, f]
      rfl
    · unfold updateA
      simp only [keyOf, hb]
      rw [show Value.string ⟨k.toArray⟩ = kS k from rfl, f]
    · have key : findA .string (kS k) (es ++ [{ key := kS k, val := .lit (.int .i64 (0 + 1)), born := c }]) 0 = some (some (es.length, .lit (.int .i64 (0 + 1)))) := by
        have := find_app (k := k) (e := { key := kS k, val := .lit (.int .i64 (0 + 1)), born := c }) 0 hC hk
        rw [this]
        unfold findA
        rw [same_kS, beq_self_eq_true]
        simp
      have f' := findT_str (es := es ++ [{ key := kS k, val := .lit (.int .i64 (0 + 1)), born := c }]) (k := k) hu hi
      rw [key] at f'
      unfold lookupA
      simp only [keyOf, entsA, hb', elemT, hu, hz]
      rw [show Value.string ⟨k.toArray⟩ = kS k from rfl, f']
      rfl
end
end Go.Proofs.YtjicijhakcmifaaGreatDoor.Ex
end

section

set_option linter.unusedSimpArgs false
set_option linter.unusedVariables false
set_option maxRecDepth 10000
namespace Go.Proofs.YtjicijhakcmifaaGreatDoor.Ex
open Go
section
variable {F : Nat → Prop} {h : AH} {c : List AV}
theorem RSl_is {α : Type} {R : Rep α} {xs : List α} : (RSl R).is F h c xs ↔ ∃ v, c = [v] ∧ IsSl R F h v xs :=
  ⟨fun hh => by obtain ⟨v, L, rfl, h1⟩ := hh; exact ⟨v, rfl, v, L, rfl, h1⟩, fun ⟨v, e, hh⟩ => e ▸ hh⟩
end
/-- The loads of an element, by place. -/
theorem IsSl.at {α : Type} {R : Rep α} {T : TT} {F : Nat → Prop} {h : AH} {v : AV} {xs : List α} (hs : IsSl R F h v xs) {z : Nat} (hz : R.z = z) {i : Nat} {x : α} (hx : xs[i]? = some x) :
    ∃ c, R.is F h c x ∧ (∀ e n j, sizeT T e = some n → 0 < n → j + n ≤ z → loadA T h e (slB v) (slO v + i * z + j) = ldL T e c j) ∧ (∀ e n, sizeT T e = some n → 0 < n → n ≤ z → loadA T h e (slB v) (slO v + i * z) = ldL T e c 0) := by
  subst hz
  obtain ⟨c, h1, h2⟩ := hs.get (T := T) hx
  exact ⟨c, h1, h2, fun e n hn h0 hle => by have := h2 e n 0 hn h0 (by omega); simpa using this⟩
/-- The loads of an element in a heap that has grown; what the element is, is told of the heap ahead. -/
theorem IsSl.atE {α : Type} {R : Rep α} {T : TT} {F : Nat → Prop} {H h : AH} {v : AV} {xs : List α} (hs : IsSl R F H v xs) (he : Ext H.n H h) {z : Nat} (hz : R.z = z) {i : Nat} {x : α} (hx : xs[i]? = some x) :
    ∃ c, R.is F H c x ∧ (∀ e n j, sizeT T e = some n → 0 < n → j + n ≤ z → loadA T h e (slB v) (slO v + i * z + j) = ldL T e c j) ∧ (∀ e n, sizeT T e = some n → 0 < n → n ≤ z → loadA T h e (slB v) (slO v + i * z) = ldL T e c 0) := by
  have key : ∀ e off, loadA T h e (slB v) off = loadA T H e (slB v) off := fun e off => by
    obtain ⟨L, h1, _, _, h3⟩ := hs.out
    rcases h1.2 with ⟨rfl, rfl⟩ | ⟨b, o, cap, row, rfl, h4, h5⟩
    · have := h3.1
      have hlt := (List.getElem?_eq_some_iff.1 hx).1
      simp at this
      omega
    · have := he.2 b (getR_lt h4)
      simp only [slB, loadA, getR, this]
  obtain ⟨c, h1, h2, h3⟩ := hs.at (T := T) hz hx
  exact ⟨c, h1, fun e n j a b d => by rw [key]; exact h2 e n j a b d, fun e n a b d => by rw [key]; exact h3 e n a b d⟩
end Go.Proofs.YtjicijhakcmifaaGreatDoor.Ex
end

section

set_option linter.unusedSimpArgs false
set_option linter.unusedVariables false
set_option maxRecDepth 10000
namespace Go.Proofs.YtjicijhakcmifaaGreatDoor.Ex
open Go
section
variable {P : Program} {T : TT} {t : TM} {h : AH} {d : Option Tmp} {ty : TypeId} {ps : String} {af : Array Edge} {g : Option (Nat × Bool)}
/-- Bytes as a text. -/
def aConQ (P : Program) (T : TT) (o : Oper) (t : TM) (h : AH) (src dst : TypeId) (x : Operand) : AR := aConvert P T o t h src dst x
def conM (h : AH) (r : AR) : AV → AR
  | .sl b off len _ => match bytesAt h b off len with
    | some bs => some (.val (.lit (.string ⟨bs.toArray⟩)), h)
    | none => r
  | _ => r
theorem conM_sl {r : AR} {b off len : Nat} {cap : Cap} : conM h r (.sl b off len cap) = match bytesAt h b off len with
    | some bs => some (.val (.lit (.string ⟨bs.toArray⟩)), h)
    | none => r := rfl
theorem a_conM {i : Nat} : aConR Tryz.prog (tabOf Tryz.prog NT0) ⟨d, .convert 42 9 (.tmp i), ty, ps, af, g⟩ t h 42 9 (.tmp i) = conM h (aConQ Tryz.prog (tabOf Tryz.prog NT0) ⟨d, .convert 42 9 (.tmp i), ty, ps, af, g⟩ t h 42 9 (.tmp i)) (t.get i) := by
  unfold conM
  split
  · rename_i b off len cap hv
    split
    · rename_i bs hbs
      have hu1 : und (tabOf Tryz.prog NT0) 42 = some (.slice 5) := by kernel_rfl
      have hu2 : und (tabOf Tryz.prog NT0) 9 = some .string := by kernel_rfl
      have hu3 : und (tabOf Tryz.prog NT0) 5 = some (.int .u8) := by kernel_rfl
      have hl : litOp Tryz.prog ⟨d, .convert 42 9 (.tmp i), ty, ps, af, g⟩ t = none := by
        unfold litOp
        rw [if_neg]
        simp [Op.operands, litAll, ev_tmp, hv, toVal]
      unfold aConR aConvert
      rw [ev_tmp, hv]
      unfold orLit
      rw [hl]
      simp only [aConv1, hu1, hu2, hu3, hbs, Option.map_some, val]
    · rfl
  · rfl
end
def bL (xs : List UInt8) : List AV := xs.map fun n => .lit (.int .u8 n.toNat)
theorem bytesA_bL : ∀ xs : List UInt8, bytesA (bL xs) = some xs
  | [] => rfl
  | x :: xs => by
    have hlt : Nat.blt x.toNat 256 = true := by rw [Nat.blt_eq]; exact UInt8.toNat_lt x
    show (bif Nat.blt x.toNat 256 then (bytesA (bL xs)).map (UInt8.ofNat x.toNat :: ·) else none) = _
    rw [hlt, bytesA_bL xs]
    simp
theorem OwnL.bytes {G : Nat → Prop} {n0 : Nat} {h : AH} {v : AV} {e : TypeId} {xs : List UInt8} (ho : OwnL RByte G n0 h v e xs) (hne : xs ≠ []) :
    ∃ p, v = .sl p 0 xs.length (.un 1) ∧ n0 ≤ p ∧ h.at p = some (.cells (bL xs) e) ∧ bytesAt h p 0 xs.length = some xs := by
  obtain ⟨L, h1, h2⟩ := ho
  have hL : L.flatten = bL xs := by
    obtain ⟨e1, e2⟩ := h2
    have key : ∀ (L : List (List AV)) (xs : List UInt8), L.length = xs.length → (∀ (i : Nat) c x, L[i]? = some c → xs[i]? = some x → RByte.is (fun b => G b ∧ Apart v b) h c x) → L.flatten = bL xs := by
      intro L
      induction L with
      | nil => intro xs hl _; cases xs with | nil => rfl | cons => cases hl
      | cons a r ih =>
        intro xs hl hh
        cases xs with
        | nil => cases hl
        | cons x xs =>
          have i1 := ih xs (by simpa using hl) (fun i c y a b => hh (i + 1) c y (by simpa using a) (by simpa using b))
          obtain rfl := hh 0 a x rfl rfl
          rw [List.flatten_cons, i1]
          rfl
    exact key L xs e1 e2
  have e0 := h2.1
  rcases h1.2 with ⟨rfl, rfl⟩ | ⟨p, rfl, hp, hat⟩
  · exact absurd (List.eq_nil_of_length_eq_zero (by rw [← e0]; rfl)) hne
  · refine ⟨p, by rw [e0]; rfl, hp, by rw [hat, hL], ?_⟩
    unfold bytesAt getR
    rw [hat, hL]
    show (match cut (bL xs) 0 xs.length with | some cs => bytesA cs | none => none) = _
    unfold cut
    rw [if_pos (by unfold bL; simp)]
    show bytesA (((bL xs).drop 0).take xs.length) = _
    rw [List.drop_zero, List.take_of_length_le (by unfold bL; simp), bytesA_bL]
end Go.Proofs.YtjicijhakcmifaaGreatDoor.Ex
end

section

set_option linter.unusedSimpArgs false
set_option linter.unusedVariables false
set_option maxRecDepth 10000
set_option maxHeartbeats 4000000
namespace Go.Proofs.YtjicijhakcmifaaGreatDoor.Ex
open Go
section
variable {H : AH} {Q : AV → AH → Prop}
theorem itoa_c {n : Int} {e : TypeId} (hT : H.at 1 = some (.frz tabL e)) (h0 : -9223372036854775808 ≤ n) (h1 : n ≤ 9223372036854775807) (hq : Q (.lit (.string ⟨(Lib.itoa n).toArray⟩)) H) : WC Tryz.prog (tabOf Tryz.prog NT0) S0 16 [.lit (.int .i64 n)] H Q := by
  refine WC_sum Tryz.func16 rfl (g := sItoa) rfl ?_ hq
  cases hs : (decide (0 ≤ n) && decide (n < 100)) with
  | true =>
    simp only [Bool.and_eq_true, decide_eq_true_eq] at hs
    have e1 : Lib.itoa n = dig2 n.toNat := by
      unfold Lib.itoa
      rw [if_neg (by omega), dig2_eq (by omega)]
    rw [e1]
    show (bif decide (0 ≤ n) && decide (n < 100) then _ else _) = _
    rw [decide_eq_true hs.1, decide_eq_true hs.2]
    rfl
  | false =>
    have hu : uintsL tabL = some Lib.pow10Tab := by decide
    show (bif decide (0 ≤ n) && decide (n < 100) then _ else _) = _
    rw [hs]
    simp only [hT, hu, h0, h1, decide_true, Bool.and_self, cond_true, cond_false]
theorem trim_c {s cs : List UInt8} (h1 : s.length ≤ 9223372036854775807) (h2 : cs.length < 4294967281) (h3 : cs.all (fun b => decide (b.toNat < 128)) = true) (hq : Q (.lit (.string ⟨(Lib.trimS s cs).toArray⟩)) H) : WC Tryz.prog (tabOf Tryz.prog NT0) S0 57 [.lit (.string ⟨s.toArray⟩), .lit (.string ⟨cs.toArray⟩)] H Q := by
  refine WC_sum Tryz.func57 rfl (g := sTrim) rfl ?_ hq
  show (bif decide ((⟨s.toArray⟩ : ByteArray).size ≤ 9223372036854775807) && (decide ((⟨cs.toArray⟩ : ByteArray).size < 4294967281) && cs.all fun b => decide (b.toNat < 128)) then _ else _) = _
  rw [bsize, bsize, decide_eq_true h1, decide_eq_true h2, h3]
  rfl
theorem index_c {s : List UInt8} {c : UInt8} (hq : Q (.lit (.int .i64 (Lib.indexByte s c))) H) : WC Tryz.prog (tabOf Tryz.prog NT0) S0 112 [.lit (.string ⟨s.toArray⟩), .lit (.string ⟨#[c]⟩)] H Q :=
  WC_sum Tryz.func112 rfl (g := sIndex) rfl rfl hq
theorem count_c {s : List UInt8} {c : UInt8} (hq : Q (.lit (.int .i64 (s.count c : Nat))) H) : WC Tryz.prog (tabOf Tryz.prog NT0) S0 86 [.lit (.string ⟨s.toArray⟩), .lit (.string ⟨#[c]⟩)] H Q :=
  WC_sum Tryz.func86 rfl (g := sCount) rfl rfl hq
theorem atoi_c {s : List UInt8} {n : Int} (h1 : s.length ≤ 18) (h2 : Lib.atoi s = some n) (hq : Q (.tup [.lit (.int .i64 n), .lit .nilIface]) H) : WC Tryz.prog (tabOf Tryz.prog NT0) S0 58 [.lit (.string ⟨s.toArray⟩)] H Q := by
  refine WC_sum Tryz.func58 rfl (g := sAtoi) rfl ?_ hq
  show (bif decide ((⟨s.toArray⟩ : ByteArray).size ≤ 18) then (Lib.atoi s).map fun n => (AV.tup [.lit (.int .i64 n), .lit .nilIface], H) else none) = _
  rw [bsize, decide_eq_true h1, h2]
  rfl
theorem lives25_c (hq : Q (.lit (.bool true)) H) : WC Tryz.prog (tabOf Tryz.prog NT0) S0 15 [] H Q := WC_sum Tryz.func15 rfl (g := sTrue) rfl rfl hq
end
theorem itoa_nat (n : Nat) : Lib.itoa (n : Int) = Lib.decDigits n := by
  unfold Lib.itoa
  rw [if_neg (by omega)]
  rfl
theorem dig_len {n : Nat} (h : n ≤ 9223372036854775807) : (Lib.decDigits n).length ≤ 20 := digits_len n 20 (by omega) (by omega)
end Go.Proofs.YtjicijhakcmifaaGreatDoor.Ex
end

section

set_option linter.unusedSimpArgs false
set_option linter.unusedVariables false
set_option maxRecDepth 10000
set_option maxHeartbeats 4000000
namespace Go.Proofs.YtjicijhakcmifaaGreatDoor.Ex
open Go
theorem cut1_x {H : AH} {l : List UInt8} {c : UInt8} (hN : l.length ≤ 4611686018427387000) : WC Tryz.prog (tabOf Tryz.prog NT0) S0 84 [.lit (.string ⟨l.toArray⟩), .lit (.string ⟨#[c]⟩)] H fun r h' => h' = H ∧
    ((c ∉ l ∧ r = .tup [.lit (.string ⟨l.toArray⟩), .lit (.string ⟨#[]⟩), .lit (.bool false)]) ∨ ∃ p q, l = p ++ c :: q ∧ c ∉ p ∧ r = .tup [.lit (.string ⟨p.toArray⟩), .lit (.string ⟨q.toArray⟩), .lit (.bool true)]) := by
  refine WC_fn Tryz.func84 rfl rfl ?_
  simp only [core, zrA, zrS, zrM, zrL, zrE, reduceCtorEq, zrD, ziE, ziL, ziN, Tryz.ntmps84]
  refine index_c ?_
  rcases index_split c l with ⟨h1, h2⟩ | ⟨p, q, h1, h2, h3⟩
  · rw [h1]
    have hneg : ((0 : Int) ≤ -1) = False := by simp
    simp only [core, zrA, zrS, zrM, zrL, zrE, reduceCtorEq, zrD, ziE, ziL, ziN, hneg]
    exact .inl h2
  · rw [h3]
    have hpos : ((0 : Int) ≤ (p.length : Int)) = True := by simp
    have hlen : l.length = p.length + 1 + q.length := by rw [h1]; simp; omega
    simp only [core, zrA, zrS, zrM, zrL, zrE, reduceCtorEq, zrD, ziE, ziL, ziN, hpos]
    rw [WB_regionD [0, 1, 2, 3, 4, 5, 6, 7, 8, 9, 10, 11] 11146287883925545150749134857300540068462592 (by kernel_rfl)]
    have w1 : IntKind.i64.wrap ((p.length : Int) + ((1 : Nat) : Int)) = ((p.length + 1 : Nat) : Int) := (wrap_in (by omega) (by omega)).trans (by omega)
    have t1 : l.take p.length = p := by rw [h1, List.take_left']; rfl
    have t2 : (l.take l.length).drop (p.length + 1) = q := by
      rw [List.take_length, h1, ← List.drop_drop, List.drop_left']
      · rfl
      · rfl
    have hs1 : ∀ r, sslM H r l 0 (p.length : Int) = some (.val (.lit (.string ⟨p.toArray⟩)), H) := fun r => by
      unfold sslM
      rw [if_pos ⟨by omega, by omega, by omega⟩, Int.toNat_natCast, t1]
      rfl
    have hs2 : ∀ r, sslM H r l ((p.length + 1 : Nat) : Int) ((l.length : Nat) : Int) = some (.val (.lit (.string ⟨q.toArray⟩)), H) := fun r => by
      unfold sslM
      rw [if_pos ⟨by omega, by omega, by omega⟩, Int.toNat_natCast, Int.toNat_natCast, t2]
    repeat ((with_reducible refine WDM_cons ?_; simp only [dw1]; try simp only [dw2, zrA, zrM, zrR, zrO, zrE]); simp only [core, zrA, zrS, zrM, zrL, zrE, reduceCtorEq, zrD, ziE, ziL, ziN, cored, a_ssl_hi, a_ssl_lo, a_slen, isStrV_lit, strV_lit, isIntV_lit, intV_lit, hs1, hs2, w1, List.length_singleton])
    exact .inr ⟨p, q, h1, h2, rfl⟩
theorem cut_x {H : AH} {l : List UInt8} {c : UInt8} (hN : l.length ≤ 4611686018427387000) : WC Tryz.prog (tabOf Tryz.prog NT0) S0 55 [.lit (.string ⟨l.toArray⟩), .lit (.string ⟨#[c]⟩)] H fun r h' => h' = H ∧
    ((c ∉ l ∧ r = .tup [.lit (.string ⟨l.toArray⟩), .lit (.string ⟨#[]⟩), .lit (.bool false)]) ∨ ∃ p q, l = p ++ c :: q ∧ c ∉ p ∧ r = .tup [.lit (.string ⟨p.toArray⟩), .lit (.string ⟨q.toArray⟩), .lit (.bool true)]) := by
  refine WC_fn Tryz.func55 rfl rfl ?_
  simp only [core, zrA, zrS, zrM, zrL, zrE, reduceCtorEq, zrD, ziE, ziL, ziN, Tryz.ntmps55]
  refine (cut1_x hN).mono ?_
  rintro _ _ ⟨q5, ⟨h1, rfl⟩ | ⟨p, q, h1, h2, rfl⟩⟩
  · replace q5 := q5.symm
    subst q5
    simp only [core, zrA, zrS, zrM, zrL, zrE, reduceCtorEq, zrD, ziE, ziL, ziN]
    exact .inl h1
  · replace q5 := q5.symm
    subst q5
    simp only [core, zrA, zrS, zrM, zrL, zrE, reduceCtorEq, zrD, ziE, ziL, ziN]
    exact .inr ⟨p, q, h1, h2, rfl⟩
/-- A text in a row. -/
def RTx : Rep (List UInt8) where
  z := 1
  is _ _ c x := c = [.lit (.string ⟨x.toArray⟩)]
  len := fun h => by subst h; rfl
  one := fun h v hv => by subst h; simp at hv; subst hv; rfl
  lift := fun h _ => h
theorem RTx_z : RTx.z = 1 := rfl
theorem RTx_is {F : Nat → Prop} {h : AH} {c : List AV} {x : List UInt8} : RTx.is F h c x ↔ c = [.lit (.string ⟨x.toArray⟩)] := Iff.rfl
abbrev OwnT (n0 : Nat) (h : AH) (v : AV) (xs : List (List UInt8)) : Prop := OwnL RTx (fun _ => False) n0 h v 9 xs
theorem push_tx {n0 q : Nat} {h : AH} {v : AV} {xs : List (List UInt8)} {x : List UInt8} {cap : Cap} {e' : TypeId} (ho : OwnT n0 h v xs) (hn0 : n0 ≤ h.n) (A : h.at q = some (.cells [.lit (.string ⟨x.toArray⟩)] e')) (hl : xs.length ≤ 1000000000000) :
    ∃ s' h', appendA (tabOf Tryz.prog NT0) h 25 25 v (.sl q 0 1 cap) = some (s', h') ∧ OwnT n0 h' s' (xs ++ [x]) ∧ Ext n0 h h' := by
  obtain ⟨s', h', a, b, c, d⟩ := ho.snoc (T := tabOf Tryz.prog NT0) (t := 25) (tx := 25) (y := x) (cap := cap) (by kernel_rfl) (by kernel_rfl) (by kernel_rfl) (zv := .lit (.string ⟨#[]⟩)) (by kernel_rfl) (by' := 16) (by kernel_rfl) (by kernel_rfl) (by decide) (by decide) A (RTx_is.2 rfl) (by omega) (by omega) hn0
  exact ⟨s', h', a, b, c⟩
end Go.Proofs.YtjicijhakcmifaaGreatDoor.Ex
end

section

set_option linter.unusedSimpArgs false
set_option linter.unusedVariables false
set_option maxRecDepth 10000
set_option maxHeartbeats 4000000
namespace Go.Proofs.YtjicijhakcmifaaGreatDoor.Ex
open Go
def txV (l : List UInt8) : AV := .lit (.string ⟨l.toArray⟩)
def zS (n : Nat) : List AV := rep [txV []] n
theorem zS_succ (n : Nat) : zS (n + 1) = txV [] :: zS n := rfl
theorem zS_len (n : Nat) : (zS n).length = n := by
  induction n with
  | zero => rfl
  | succ n ih => rw [zS_succ, List.length_cons, ih]
theorem put_tx {ps : List (List UInt8)} {p : List UInt8} {i K : Nat} (hl : ps.length = i) (hi : i < K) : put (ps.map txV ++ zS (K - i)) i [txV p] = some ((ps ++ [p]).map txV ++ zS (K - (i + 1))) := by
  have hz : K - i = (K - (i + 1)) + 1 := by omega
  have hm : (ps.map txV).length = i := by rw [List.length_map, hl]
  unfold put
  rw [if_pos (by rw [List.length_append, hm, zS_len]; show i + 1 ≤ _; omega)]
  congr 1
  have hdr : (ps.map txV ++ txV [] :: zS (K - (i + 1))).drop (i + [txV p].length) = zS (K - (i + 1)) := by
    have e : ps.map txV ++ txV [] :: zS (K - (i + 1)) = (ps.map txV ++ [txV []]) ++ zS (K - (i + 1)) := by simp
    rw [e, List.drop_left']
    rw [List.length_append, hm]
    rfl
  rw [List.take_left' hm, hz, zS_succ, hdr, List.map_append]
  rfl
theorem map_flat : ∀ xs : List (List UInt8), (xs.map fun x => [txV x]).flatten = xs.map txV
  | [] => rfl
  | a :: r => by rw [List.map_cons, List.flatten_cons, map_flat r]; rfl
theorem isl_row {F : Nat → Prop} {h : AH} {p n : Nat} {e : TypeId} {xs : List (List UInt8)} (hat : h.at p = some (.cells (xs.map txV) e)) (hF : F p) (hn : xs.length = n) : IsSl RTx F h (.sl p 0 n (.kn n)) xs := by
  subst hn
  have hfl := map_flat xs
  have he : Els RTx F h (xs.map fun x => [txV x]) xs := ⟨by simp, fun i c x h1 h2 => by
    rw [List.getElem?_map, h2] at h1
    cases h1
    exact RTx_is.2 rfl⟩
  have hl := flat_len (z := RTx.z) he.lens
  refine .mk ⟨he.lens, .inr ⟨p, 0, .kn xs.length, xs.map txV, by simp, by unfold getR; rw [hat], ?_⟩⟩ (fun b off n cap e => by cases e; exact hF) (fun b off n cap e => by cases e; exact Nat.le_refl _) he
  rw [hfl] at hl ⊢
  unfold cut
  rw [if_pos (by rw [hl]; simp), List.drop_zero, show (xs.map fun x => [txV x]).length * RTx.z = (xs.map txV).length by rw [hl], List.take_length]
section
variable {d : Option Nat} {ty ps af : _} {g : _} {t : TM} {h : AH}
theorem a_mkT {i : Nat} {n : Nat} (hi : t.get i = .lit (.int .i64 n)) (hn : n ≤ 1000000000) :
    aop Tryz.prog (tabOf Tryz.prog NT0) ⟨d, .makeSlice 25 (.tmp i) (.tmp i), ty, ps, af, g⟩ t h = some (.val (.sl h.n 0 n (.kn n)), h.push (.cells (zS n) 9)) := by
  have e1 : und (tabOf Tryz.prog NT0) 25 = some (.slice 9) := by kernel_rfl
  have h00 : (tabOf Tryz.prog NT0 9).map (fun i => (i.bytes, i.zero.cells, i.size)) = some (16, [txV []], 1) := by kernel_rfl
  obtain ⟨i0, h0, he⟩ := Option.map_eq_some_iff.1 h00
  obtain ⟨hb, hz, hs⟩ : i0.bytes = 16 ∧ i0.zero.cells = [txV []] ∧ i0.size = 1 := by
    simp only [Prod.mk.injEq] at he
    exact he
  show aMakeSlice _ t h _ _ _ = _
  unfold aMakeSlice
  rw [e1, show evalA t (.tmp i) = some (t.get i) from rfl, hi]
  simp only [Option.bind_some, natA_int]
  rw [if_pos (Int.natCast_nonneg n)]
  simp only [Int.toNat_natCast, h0, hb, hz, hs]
  rw [if_pos (by simp; refine ⟨by omega, by omega⟩)]
  rfl
end
theorem index0_x {H : AH} {l : List UInt8} {c : UInt8} : WC Tryz.prog (tabOf Tryz.prog NT0) S0 87 [.lit (.string ⟨l.toArray⟩), .lit (.string ⟨#[c]⟩)] H fun r h' => r = .lit (.int .i64 (Lib.indexByte l c)) ∧ h' = H := by
  refine WC_fn Tryz.func87 rfl rfl ?_
  simp only [core, zrA, zrS, zrM, zrL, zrE, reduceCtorEq, zrD, ziE, ziL, ziN, Tryz.ntmps87]
  refine index_c ?_
  simp only [core, zrA, zrS, zrM, zrL, zrE, reduceCtorEq, zrD, ziE, ziL, ziN]
  try exact ⟨rfl, rfl⟩
theorem gen_x {H : AH} {l : List UInt8} {c : UInt8} (hl : l.length ≤ 1100000) : WC Tryz.prog (tabOf Tryz.prog NT0) S0 56 [.lit (.string ⟨l.toArray⟩), .lit (.string ⟨#[c]⟩), .lit (.int .i64 0), .lit (.int .i64 (-1))] H fun r h' => Ext H.n H h' ∧ IsSl RTx (fun b => H.n ≤ b) h' r (splitF c l) := by
  refine WC_fn Tryz.func56 rfl rfl ?_
  have e1 : ∀ (P : Program) (e : TypeId), pur P (binOp .eql e (Value.string ⟨#[c]⟩) (Value.string ⟨#[]⟩)) = some (.ok (.bool false)) := fun P e => by
    rw [show pur P (binOp .eql e (Value.string ⟨#[c]⟩) (Value.string ⟨#[]⟩)) = some (.ok (.bool ([c] == []))) from pur_seq (a := [c]) (b := [])]
    rfl
  have hm1 : (((-1 : Int)) == 0) = false := rfl
  have hm2 : ((-1 : Int) < 0) = True := by simp
  simp only [core, zrA, zrS, zrM, zrL, zrE, reduceCtorEq, zrD, ziE, ziL, ziN, Tryz.ntmps56, e1, hm1, hm2]
  refine count_c ?_
  obtain ⟨k, hk⟩ : ∃ k, k = l.count c := ⟨_, rfl⟩
  have hkl : k ≤ l.length := hk ▸ List.count_le_length
  rw [← hk]
  have w1 : IntKind.i64.wrap ((k : Int) + 1) = ((k + 1 : Nat) : Int) := (wrap_in (by omega) (by omega)).trans (by omega)
  have w2 : IntKind.i64.wrap ((l.length : Int) + 1) = ((l.length + 1 : Nat) : Int) := (wrap_in (by omega) (by omega)).trans (by omega)
  have w3 : IntKind.i64.wrap (((k + 1 : Nat) : Int) - 1) = (k : Int) := (wrap_in (by omega) (by omega)).trans (by omega)
  have hmn : (if ((l.length + 1 : Nat) : Int) < ((k + 1 : Nat) : Int) then ((l.length + 1 : Nat) : Int) else ((k + 1 : Nat) : Int)) = ((k + 1 : Nat) : Int) := if_neg (by omega)
  simp only [core, zrA, zrS, zrM, zrL, zrE, reduceCtorEq, zrD, ziE, ziL, ziN, w1, w2, w3, a_slen, isStrV_lit, strV_lit, hmn]
  rw [a_mkT (n := k + 1) (by simp only [core, zrA, zrS, zrM, zrL, zrE, reduceCtorEq, zrD, ziE, ziL, ziN]) (by omega)]
  obtain ⟨h0, hh0⟩ : ∃ h0, h0 = H.push (.cells (zS (k + 1)) 9) := ⟨_, rfl⟩
  have e0 : Ext H.n H h0 := hh0 ▸ (Ext.refl _ _).push _ (Nat.le_refl _)
  have X0 : h0.at H.n = some (.cells (zS (k + 1)) 9) := hh0 ▸ at_push_n _ _
  have i9 : isSl (.sl H.n 0 (k + 1) (.kn (k + 1))) = true := rfl
  have d9 : lenD (.sl H.n 0 (k + 1) (.kn (k + 1))) = k + 1 := rfl
  have j9 : slB (.sl H.n 0 (k + 1) (.kn (k + 1))) = H.n := rfl
  have k9 : slO (.sl H.n 0 (k + 1) (.kn (k + 1))) = 0 := rfl
  simp only [core, zrA, zrS, zrM, zrL, zrE, reduceCtorEq, zrD, ziE, ziL, ziN, ← hh0, w3]
  refine WB_for k (fun i t h => ∃ ps s, h.at H.n = some (.cells (ps.map txV ++ zS (k + 1 - i)) 9) ∧ ps.length = i ∧ splitF c l = ps ++ splitF c s ∧ s.length ≤ l.length ∧ Ext H.n H h ∧ t.n = 66 ∧ t.get 0 = .lit (.string ⟨s.toArray⟩) ∧ t.get 1 = .lit (.string ⟨#[c]⟩) ∧ t.get 2 = .lit (.int .i64 0) ∧ t.get 3 = .lit (.int .i64 k) ∧ t.get 9 = .sl H.n 0 (k + 1) (.kn (k + 1)) ∧ t.get 10 = .lit (.int .i64 i)) ?_ ?_ _ _ ?_
  · rintro i t h hlt hc ⟨ps, s, Q, hps, hsp, hsl, E, hn, g0, g1, g2, g3, g9, g10⟩ ih
    have hwi := wrap_succ (n := k) hlt (by omega)
    have hcnt : (splitF c s).length = k + 1 - i := by
      have h1 := splitF_len c l
      rw [hsp, List.length_append, hps, ← hk] at h1
      omega
    simp only [core, zrA, zrS, zrM, zrL, zrE, reduceCtorEq, zrD, ziE, ziL, ziN, hn, g0, g1, g2, g3, g9, g10, hlt, hc]
    refine index0_x.mono ?_
    rintro _ _ ⟨rfl, q5⟩
    replace q5 := q5.symm
    subst q5
    rcases index_split c s with ⟨h1, h2⟩ | ⟨p, r, h1, h2, h3⟩
    · rw [splitF_one c s h2] at hcnt
      simp at hcnt
      omega
    rw [h3]
    have hneg : ((p.length : Int) < 0) = False := by simp
    have hlen : s.length = p.length + 1 + r.length := by rw [h1]; simp; omega
    have v1 : IntKind.i64.wrap ((p.length : Int) + 0) = (p.length : Int) := (wrap_in (by omega) (by omega)).trans (by omega)
    have v2 : IntKind.i64.wrap ((p.length : Int) + ((1 : Nat) : Int)) = ((p.length + 1 : Nat) : Int) := (wrap_in (by omega) (by omega)).trans (by omega)
    have t1 : s.take p.length = p := by rw [h1, List.take_left']; rfl
    have t2 : (s.take s.length).drop (p.length + 1) = r := by
      rw [List.take_length, h1, ← List.drop_drop, List.drop_left']
      · rfl
      · rfl
    have hs1 : ∀ q h, sslM h q s 0 (p.length : Int) = some (.val (.lit (.string ⟨p.toArray⟩)), h) := fun q h => by
      unfold sslM
      rw [if_pos ⟨by omega, by omega, by omega⟩, Int.toNat_natCast, t1]
      rfl
    have hs2 : ∀ q h, sslM h q s ((p.length + 1 : Nat) : Int) ((s.length : Nat) : Int) = some (.val (.lit (.string ⟨r.toArray⟩)), h) := fun q h => by
      unfold sslM
      rw [if_pos ⟨by omega, by omega, by omega⟩, Int.toNat_natCast, Int.toNat_natCast, t2]
    have hput : put (ps.map txV ++ zS (k + 1 - i)) i [AV.lit (.string ⟨p.toArray⟩)] = some ((ps ++ [p]).map txV ++ zS (k + 1 - (i + 1))) := put_tx hps (by omega)
    have lQ := at_lt Q
    have hik : i < k + 1 := by omega
    simp only [corem, WB_cond_s, put, ldL, WB_label, List.nil_append, List.drop_zero, List.take_zero, zrA, zrS, zrM, zrL, zrE, reduceCtorEq, zrD, ziE, ziL, ziN, -put, hn, g0, g1, g2, g3, g9, g10, hneg, v1, v2, a_ssl_hi, a_ssl_lo, a_slen, isStrV_lit, strV_lit, isIntV_lit, intV_lit, hs1, hs2, i9, d9, j9, k9, hik, Q, lQ, hput, hwi, List.length_singleton]
    refine ih _ _ ⟨ps ++ [p], r, at_put_same _ lQ, by simp [hps], ?_, by omega, E.put _ (Nat.le_refl _), ?_⟩
    · rw [hsp, h1, splitF_app c r p h2, List.append_assoc]
      rfl
    · simp only [core, zrA, zrS, zrM, zrL, zrE, reduceCtorEq, zrD, ziE, ziL, ziN, hn, g0, g1, g2, g3, g9, g10]
  · rintro t h hc ⟨ps, s, Q, hps, hsp, hsl, E, hn, g0, g1, g2, g3, g9, g10⟩
    have hcnt : (splitF c s).length = 1 := by
      have h1 := splitF_len c l
      rw [hsp, List.length_append, hps, ← hk] at h1
      omega
    have hns : c ∉ s := fun hm => by
      rw [splitF_len] at hcnt
      have := List.count_pos_iff.2 hm
      omega
    rw [splitF_one c s hns] at hsp
    have hput : put (ps.map txV ++ zS (k + 1 - k)) k [AV.lit (.string ⟨s.toArray⟩)] = some ((ps ++ [s]).map txV ++ zS (k + 1 - (k + 1))) := put_tx hps (by omega)
    have hz0 : zS (k + 1 - (k + 1)) = [] := by rw [Nat.sub_self]; rfl
    rw [hz0, List.append_nil] at hput
    have lQ := at_lt Q
    have hik : k < k + 1 := by omega
    have v1 : IntKind.i64.wrap ((k : Int) + 1) = ((k + 1 : Nat) : Int) := (wrap_in (by omega) (by omega)).trans (by omega)
    have hsub : IsSl RTx (fun b => H.n ≤ b) (h.put H.n (.cells ((ps ++ [s]).map txV) 9)) (.sl H.n 0 (k + 1) (.kn (k + 1))) (ps ++ [s]) := isl_row (at_put_same _ lQ) (Nat.le_refl _) (by simp [hps])
    have z1 : ((0 : Int) ≤ ((k + 1 : Nat) : Int)) = True := by simp; omega
    have z2 : (((k + 1 : Nat) : Int) ≤ ((k + 1 : Nat) : Int)) = True := by simp
    have hcap : CapOk 1 (.sl H.n 0 (k + 1) (.kn (k + 1))) := fun b off n cap e => by cases e; exact Nat.le_refl _
    have hsub2 : IsSl RTx (fun b => H.n ≤ b) (h.put H.n (.cells ((ps ++ [s]).map txV) 9)) (subSl 1 0 (k + 1) (.sl H.n 0 (k + 1) (.kn (k + 1)))) (((ps ++ [s]).take (k + 1)).drop 0) := hsub.sub (Nat.zero_le _) (by simp [hps])
    rw [List.drop_zero, List.take_of_length_le (by simp [hps])] at hsub2
    have o2 := hsub2.one
    simp only [corem, WB_cond_s, put, ldL, WB_label, List.nil_append, List.drop_zero, List.take_zero, zrA, zrS, zrM, zrL, zrE, reduceCtorEq, zrD, ziE, ziL, ziN, -put, hn, g0, g1, g2, g3, g9, g10, hc, i9, d9, j9, k9, hik, Q, lQ, hput, v1, z1, z2, hcap, o2]
    rw [hsp]
    exact ⟨E.put _ (Nat.le_refl _), hsub2⟩
  · refine ⟨[], l, by rw [X0]; simp, rfl, rfl, Nat.le_refl _, e0, ?_⟩
    simp only [core, zrA, zrS, zrM, zrL, zrE, reduceCtorEq, zrD, ziE, ziL, ziN]
    try ((repeat' apply And.intro) <;> first | rfl | trivial)
theorem split_x {H : AH} {l : List UInt8} {c : UInt8} (hl : l.length ≤ 1100000) : WC Tryz.prog (tabOf Tryz.prog NT0) S0 35 [.lit (.string ⟨l.toArray⟩), .lit (.string ⟨#[c]⟩)] H fun r h' => Ext H.n H h' ∧ IsSl RTx (fun b => H.n ≤ b) h' r (splitF c l) := by
  refine WC_fn Tryz.func35 rfl rfl ?_
  simp only [core, zrA, zrS, zrM, zrL, zrE, reduceCtorEq, zrD, ziE, ziL, ziN, Tryz.ntmps35]
  refine (gen_x hl).mono ?_
  rintro r h2 ⟨E2, hs⟩
  have o2 := hs.one
  simp only [core, zrA, zrS, zrM, zrL, zrE, reduceCtorEq, zrD, ziE, ziL, ziN, o2]
  exact ⟨E2, hs⟩
end Go.Proofs.YtjicijhakcmifaaGreatDoor.Ex
end

section

set_option linter.unusedSimpArgs false
set_option linter.unusedVariables false
set_option maxRecDepth 10000
set_option maxHeartbeats 4000000
namespace Go.Proofs.YtjicijhakcmifaaGreatDoor.Ex
open Go
def digs : List UInt8 := [48, 49, 50, 51, 52, 53, 54, 55, 56, 57]
theorem digs_iff (b : UInt8) : digs.contains b = true ↔ 48 ≤ b.toNat ∧ b.toNat ≤ 57 := by
  have key : ∀ n : Fin 256, digs.contains (UInt8.ofNat n.val) = true ↔ 48 ≤ (UInt8.ofNat n.val).toNat ∧ (UInt8.ofNat n.val).toNat ≤ 57 := by decide +kernel
  have := key ⟨b.toNat, UInt8.toNat_lt b⟩
  rw [UInt8.ofNat_toNat] at this
  exact this
theorem dropW_nil {p : UInt8 → Bool} : ∀ {l : List UInt8}, l.dropWhile p = [] ↔ ∀ b ∈ l, p b = true
  | [] => by simp
  | a :: r => by
    rw [List.dropWhile_cons]
    by_cases ha : p a = true
    · rw [if_pos ha, dropW_nil]
      simp [ha]
    · rw [if_neg ha]
      simp [ha]
theorem dropW_head {p : UInt8 → Bool} {a : UInt8} {r : List UInt8} : ∀ {l : List UInt8}, l.dropWhile p = a :: r → p a = false
  | [], h => by cases h
  | x :: l, h => by
    rw [List.dropWhile_cons] at h
    by_cases hx : p x = true
    · rw [if_pos hx] at h
      exact dropW_head h
    · rw [if_neg hx] at h
      cases h
      simpa using hx
theorem trim_nil {l : List UInt8} : Lib.trimS l digs = [] ↔ ∀ b ∈ l, 48 ≤ b.toNat ∧ b.toNat ≤ 57 := by
  unfold Lib.trimS Lib.trimLeftS Lib.trimRightS
  rw [dropW_nil]
  constructor
  · intro h
    by_cases hd : l.reverse.dropWhile (digs.contains ·) = []
    · rw [dropW_nil] at hd
      exact fun b hb => (digs_iff b).1 (hd b (by simpa using hb))
    · exfalso
      obtain ⟨a, r, ha⟩ : ∃ a r, l.reverse.dropWhile (digs.contains ·) = a :: r := by
        cases hq : l.reverse.dropWhile (digs.contains ·) with
        | nil => exact absurd hq hd
        | cons a r => exact ⟨a, r, rfl⟩
      have h1 : digs.contains a = false := dropW_head ha
      rw [ha] at h
      rw [h a (by simp)] at h1
      cases h1
  · intro h b hb
    have hb : b ∈ l.reverse.dropWhile (digs.contains ·) := by simpa using hb
    exact (digs_iff b).2 (h b (by simpa using (List.dropWhile_sublist _).subset hb))
theorem natF_bad {l : List UInt8} (h : l = [] ∨ 10 < l.length ∨ (1 < l.length ∧ l[0]? = some 48)) : natF l = none := by unfold natF; rw [if_pos h]
theorem natF_ok {l : List UInt8} {n : Nat} (h : ¬ (l = [] ∨ 10 < l.length ∨ (1 < l.length ∧ l[0]? = some 48))) (hd : Lib.decFrom 0 l = some n) : natF l = if n ≤ 2147483647 then some n else none := by
  unfold natF
  rw [if_neg h, hd]
theorem dec_lt : ∀ {l : List UInt8} {n acc : Nat}, Lib.decFrom acc l = some n → n < (acc + 1) * 10 ^ l.length
  | [], n, acc, h => by cases h; simp
  | b :: r, n, acc, h => by
    unfold Lib.decFrom at h
    cases hd : Lib.digitVal b with
    | none => rw [hd] at h; cases h
    | some d =>
      rw [hd] at h
      have h1 := dec_lt h
      have hd9 : d ≤ 9 := by
        unfold Lib.digitVal at hd
        split at hd
        · cases hd; omega
        · cases hd
      rw [List.length_cons, Nat.pow_succ]
      have h2 : (acc * 10 + d + 1) * 10 ^ r.length ≤ ((acc + 1) * 10) * 10 ^ r.length := Nat.mul_le_mul_right _ (by omega)
      calc n < (acc * 10 + d + 1) * 10 ^ r.length := h1
        _ ≤ ((acc + 1) * 10) * 10 ^ r.length := h2
        _ = (acc + 1) * (10 ^ r.length * 10) := by rw [Nat.mul_assoc, Nat.mul_comm 10]
theorem atoi_dec {b : UInt8} {r : List UInt8} {n : Nat} (h : Lib.decFrom 0 (b :: r) = some n) : Lib.atoi (b :: r) = some (n : Int) := by
  have hb := digit_of h b (by simp)
  unfold Lib.atoi
  have h1 : (b == 45) = false := by
    refine beq_eq_false_iff_ne.2 fun hh => ?_
    subst hh
    exact absurd hb.1 (by decide)
  have h2 : (b == 43) = false := by
    refine beq_eq_false_iff_ne.2 fun hh => ?_
    subst hh
    exact absurd hb.1 (by decide)
  simp only [h1, h2]
  show (Lib.decNat (b :: r)).map _ = _
  unfold Lib.decNat
  rw [if_neg (by simp), h]
  rfl
theorem atoi_dec' {l : List UInt8} {n : Nat} (hl : l ≠ []) (h : Lib.decFrom 0 l = some n) : Lib.atoi l = some (n : Int) := by
  cases l with
  | nil => exact absurd rfl hl
  | cons b r => exact atoi_dec h
section
variable {d : Option Nat} {ty ps af : _} {g : _} {t : TM} {h : AH}
theorem a_nilI {i : Nat} (hv : t.get i = .lit .nilIface) : aop Tryz.prog (tabOf Tryz.prog NT0) ⟨d, .binOp .eql 73 (.tmp i) (.const .nilIface) 73, ty, ps, af, g⟩ t h = some (.val (.lit (.bool true)), h) := by
  have hx : evalA t (.tmp i) = some (.lit .nilIface) := by rw [ev_tmp]; exact congrArg some hv
  have ex : litEnv t (.tmp i) = .nilIface := by simp [litEnv, hx, toVal]
  have ey : litEnv t (.const .nilIface) = .nilIface := rfl
  have h0 : litOp Tryz.prog ⟨d, .binOp .eql 73 (.tmp i) (.const .nilIface) 73, ty, ps, af, g⟩ t = some (.val (.lit (.bool true))) := by
    unfold litOp
    rw [if_pos (by simp [notSelect, Op.operands, litAll, hx, toVal]; try rfl)]
    simp only [execOp, ex, ey]
    kernel_rfl
  show aBin _ _ _ _ _ _ _ _ _ = _
  unfold aBin
  rw [hx]
  unfold orLit
  rw [h0]
end
theorem natural_x {H : AH} {l : List UInt8} (hl : l.length ≤ 4611686018427387000) : WC Tryz.prog (tabOf Tryz.prog NT0) S0 36 [.lit (.string ⟨l.toArray⟩)] H fun r h' => h' = H ∧ ∃ v : Int, r = .tup [.lit (.int .i64 v), .lit (.bool (natB l))] := by
  refine WC_fn Tryz.func36 rfl rfl ?_
  have q1 : ∀ (P : Program) (e : TypeId), pur P (binOp .eql e (Value.string ⟨l.toArray⟩) (Value.string ⟨#[]⟩)) = some (.ok (.bool (l == []))) := fun P e => pur_seq (b := [])
  have nb : natF l = none → natB l = false := fun h => by unfold natB; rw [h]; rfl
  cases e0 : (l == []) with
  | true =>
    have hn := nb (natF_bad (.inl (by simpa using e0)))
    simp only [core, zrA, zrS, zrM, zrL, zrE, reduceCtorEq, zrD, ziE, ziL, ziN, Tryz.ntmps36, a_slen, isStrV_lit, strV_lit, q1, e0, aundef, hn]
    try exact ⟨_, rfl⟩
  | false =>
  have hne : l ≠ [] := fun h => by rw [h] at e0; cases e0
  cases e1 : decide ((10 : Int) < (l.length : Int)) with
  | true =>
    have hn := nb (natF_bad (.inr (.inl (by have := of_decide_eq_true e1; omega))))
    simp only [core, zrA, zrS, zrM, zrL, zrE, reduceCtorEq, zrD, ziE, ziL, ziN, Tryz.ntmps36, a_slen, isStrV_lit, strV_lit, q1, e0, e1, aundef, hn]
    try exact ⟨_, rfl⟩
  | false =>
  have h10 : l.length ≤ 10 := by have := of_decide_eq_false e1; omega
  obtain ⟨b, hi⟩ : ∃ b, l[0]? = some b := by cases l with | nil => exact absurd rfl hne | cons b r => exact ⟨b, rfl⟩
  have hle : ((0 : Int) ≤ 0) := by omega
  have q2 : ∀ (t : List UInt8) (P : Program) (e : TypeId), pur P (binOp .neq e (Value.string ⟨t.toArray⟩) (Value.string ⟨#[]⟩)) = some (.ok (.bool (!(t == [])))) := fun t P e => pur_sne (b := [])
  obtain ⟨T, hT⟩ : ∃ T, T = Lib.trimS l digs := ⟨_, rfl⟩
  have key : (decide ((1 : Int) < (l.length : Int)) = true ∧ ((b.toNat : Int) == 48) = true) ∨ ((decide ((1 : Int) < (l.length : Int)) = false) ∨ (decide ((1 : Int) < (l.length : Int)) = true ∧ ((b.toNat : Int) == 48) = false)) := by
    cases decide ((1 : Int) < (l.length : Int)) <;> cases ((b.toNat : Int) == 48) <;> simp
  rcases key with ⟨e2, e3⟩ | key
  · have hb48 : b = 48 := UInt8.toNat_inj.1 (by have := eq_of_beq e3; show b.toNat = 48; omega)
    have hn := nb (natF_bad (.inr (.inr ⟨by have := of_decide_eq_true e2; omega, by rw [hi, hb48]⟩)))
    simp only [core, zrA, zrS, zrM, zrL, zrE, reduceCtorEq, zrD, ziE, ziL, ziN, Tryz.ntmps36, a_slen, a_six, six_int, isStrV_lit, strV_lit, q1, e0, e1, e2, e3, aundef, hn, hi, hle]
    try exact ⟨_, rfl⟩
  have hok : ¬ (l = [] ∨ 10 < l.length ∨ (1 < l.length ∧ l[0]? = some 48)) := by
    rintro (h | h | ⟨h, h'⟩)
    · exact hne h
    · omega
    · rw [hi] at h'
      cases h'
      rcases key with e2 | ⟨e2, e3⟩
      · have := of_decide_eq_false e2; omega
      · exact absurd e3 (by decide)
  rcases key with e2 | ⟨e2, e3⟩
  all_goals
    try simp only [core, zrA, zrS, zrM, zrL, zrE, reduceCtorEq, zrD, ziE, ziL, ziN, Tryz.ntmps36, a_slen, a_six, six_int, isStrV_lit, strV_lit, q1, e0, e1, e2, aundef, hi, hle]
    try simp only [core, zrA, zrS, zrM, zrL, zrE, reduceCtorEq, zrD, ziE, ziL, ziN, Tryz.ntmps36, a_slen, a_six, six_int, isStrV_lit, strV_lit, q1, e0, e1, e2, e3, aundef, hi, hle]
    refine trim_c (cs := digs) (by omega) (by decide) (by decide) ?_
    rw [← hT]
    cases et : (T == ([] : List UInt8)) with
    | false =>
      have hTn : T ≠ [] := fun h => by rw [h] at et; cases et
      have hn : natB l = false := by
        cases hq : natB l with
        | false => rfl
        | true => exact absurd (hT.trans (trim_nil.2 (natB_digits hq))) hTn
      simp only [core, zrA, zrS, zrM, zrL, zrE, reduceCtorEq, zrD, ziE, ziL, ziN, q2, et, hn]
      try exact ⟨_, rfl⟩
    | true =>
      have hT0 : T = [] := by simpa using et
      obtain ⟨n, hd⟩ := digits_dec 0 l (trim_nil.1 (hT.symm.trans hT0))
      have hnb := natF_ok hok hd
      have hnlt := dec_lt hd
      have hnB : natB l = decide ((n : Int) ≤ 2147483647) := by
        unfold natB
        rw [hnb]
        by_cases h : n ≤ 2147483647
        · rw [if_pos h, decide_eq_true (by omega)]; rfl
        · rw [if_neg h, decide_eq_false (by omega)]; rfl
      simp only [core, zrA, zrS, zrM, zrL, zrE, reduceCtorEq, zrD, ziE, ziL, ziN, q2, et]
      refine atoi_c (by omega) (atoi_dec' hne hd) ?_
      rw [hnB]
      simp only [core, zrA, zrS, zrM, zrL, zrE, reduceCtorEq, zrD, ziE, ziL, ziN, a_nilI]
      try exact ⟨_, rfl⟩
end Go.Proofs.YtjicijhakcmifaaGreatDoor.Ex
end

section

set_option linter.unusedSimpArgs false
set_option linter.unusedVariables false
set_option maxRecDepth 10000
set_option maxHeartbeats 4000000
namespace Go.Proofs.YtjicijhakcmifaaGreatDoor.Ex
open Go
end Go.Proofs.YtjicijhakcmifaaGreatDoor.Ex
end

section

set_option linter.unusedSimpArgs false
set_option linter.unusedVariables false
set_option maxRecDepth 10000
set_option maxHeartbeats 4000000
namespace Go.Proofs.YtjicijhakcmifaaGreatDoor.Ex
open Go
theorem goodId_x {H : AH} {l : List UInt8} (hl : l.length ≤ 1100000) : WC Tryz.prog (tabOf Tryz.prog NT0) S0 18 [.lit (.string ⟨l.toArray⟩)] H fun r h' => Ext H.n H h' ∧ r = .lit (.bool (goodIdF l)) := by
  refine WC_fn Tryz.func18 rfl rfl ?_
  simp only [core, zrA, zrS, zrM, zrL, zrE, reduceCtorEq, zrD, ziE, ziL, ziN, Tryz.ntmps18]
  refine (split_x (c := 46) hl).mono ?_
  rintro v h1 ⟨E1, hs⟩
  have o1 := hs.one
  have i1 := hs.isSl
  have d1 := hs.lenD
  have hgood : goodIdF l = ((splitF 46 l).all natB && (splitF 46 l).length == 3) := rfl
  have hpl : ∀ p ∈ splitF 46 l, p.length ≤ 4611686018427387000 := by
    intro p hp
    have := split_sub hp
    omega
  obtain ⟨ps, hps⟩ : ∃ ps, ps = splitF 46 l := ⟨_, rfl⟩
  rw [← hps] at hs d1 hgood hpl
  obtain ⟨n, hN⟩ : ∃ n, n = ps.length := ⟨_, rfl⟩
  rw [← hN] at d1
  have hnl : n ≤ 1100001 := by rw [hN, hps, splitF_len]; have := List.count_le_length (a := (46 : UInt8)) (l := l); omega
  simp only [core, zrA, zrS, zrM, zrL, zrE, reduceCtorEq, zrD, ziE, ziL, ziN, o1, i1, d1]
  refine WB_for n (fun i t h => h = h1 ∧ (ps.take i).all natB = true ∧ t.n = 27 ∧ t.get 3 = v ∧ t.get 10 = v ∧ t.get 11 = .lit (.int .i64 n) ∧ t.get 12 = .lit (.int .i64 i)) ?_ ?_ _ _ ?_
  · rintro i t h hlt hc ⟨rfl, hall, hn, g3, g10, g11, g12⟩ ih
    have hwi := wrap_succ (n := n) hlt (by omega)
    obtain ⟨x, hx⟩ : ∃ x, ps[i]? = some x := ⟨_, List.getElem?_eq_getElem (by omega)⟩
    obtain ⟨cc, hc1, hld, hld0⟩ := hs.at (T := tabOf Tryz.prog NT0) RTx_z hx
    obtain rfl := RTx_is.1 hc1
    have ld := hld0 9 1 (by kernel_rfl) (by decide) (by decide)
    rw [Nat.mul_one] at ld
    simp only [core, zrA, zrS, zrM, zrL, zrE, reduceCtorEq, zrD, ziE, ziL, ziN, hn, g3, g10, g11, g12, hlt, hc, i1, d1, ld]
    refine (natural_x (hpl x (List.mem_of_getElem? hx))).mono ?_
    rintro _ _ ⟨q5, w, rfl⟩
    replace q5 := q5.symm
    subst q5
    cases hb : natB x with
    | false =>
      have hg : goodIdF l = false := by
        rw [hgood, show ps.all natB = false by rw [List.all_eq_false]; exact ⟨x, List.mem_of_getElem? hx, by rw [hb]; simp⟩]
        rfl
      simp only [core, zrA, zrS, zrM, zrL, zrE, reduceCtorEq, zrD, ziE, ziL, ziN, hn, g3, g10, g11, g12, hg]
      first | exact E1 | exact ⟨E1, rfl⟩
    | true =>
      simp only [core, zrA, zrS, zrM, zrL, zrE, reduceCtorEq, zrD, ziE, ziL, ziN, hn, g3, g10, g11, g12, hwi]
      refine ih _ _ ⟨rfl, ?_, ?_⟩
      · obtain ⟨h1, h2⟩ := List.getElem?_eq_some_iff.1 hx
        rw [List.take_succ_eq_append_getElem h1, h2, List.all_append, hall]
        simp [hb]
      · simp only [core, zrA, zrS, zrM, zrL, zrE, reduceCtorEq, zrD, ziE, ziL, ziN, hn, g3, g10, g11, g12]
  · rintro t h hc ⟨rfl, hall, hn, g3, g10, g11, g12⟩
    rw [hN, List.take_length] at hall
    have hg : goodIdF l = ((n : Int) == 3) := by
      rw [hgood, hall, ← hN, Bool.true_and]
      rw [Bool.eq_iff_iff, beq_iff_eq, beq_iff_eq]
      omega
    simp only [core, zrA, zrS, zrM, zrL, zrE, reduceCtorEq, zrD, ziE, ziL, ziN, hn, g3, g10, g11, g12, hc, i1, d1, hg]
    first | exact E1 | exact ⟨E1, rfl⟩
  · refine ⟨rfl, by simp, ?_⟩
    simp only [core, zrA, zrS, zrM, zrL, zrE, reduceCtorEq, zrD, ziE, ziL, ziN]
    try ((repeat' apply And.intro) <;> first | rfl | trivial)
end Go.Proofs.YtjicijhakcmifaaGreatDoor.Ex
end

section

set_option linter.unusedSimpArgs false
set_option linter.unusedVariables false
set_option maxRecDepth 10000
set_option maxHeartbeats 4000000
namespace Go.Proofs.YtjicijhakcmifaaGreatDoor.Ex
open Go
def gB (c : UInt8) : Bool := decide (97 ≤ (c.toNat : Int)) && decide ((c.toNat : Int) ≤ 122) || (decide (65 ≤ (c.toNat : Int)) && decide ((c.toNat : Int) ≤ 90)) || (decide (48 ≤ (c.toNat : Int)) && decide ((c.toNat : Int) ≤ 57)) || ((c.toNat : Int) == 46) || ((c.toNat : Int) == 95) || ((c.toNat : Int) == 45)
def mGood (l : List UInt8) : Bool := l.all gB && (decide (1 ≤ (l.length : Int)) && decide ((l.length : Int) ≤ 40))
theorem mGood_bad {l : List UInt8} {c : UInt8} {i : Nat} (h : l[i]? = some c) (hb : gB c = false) : mGood l = false := by
  unfold mGood
  have : l.all gB = false := by
    rw [List.all_eq_false]
    exact ⟨c, List.mem_of_getElem? h, by rw [hb]; simp⟩
  rw [this]
  rfl
theorem take_all {l : List UInt8} {c : UInt8} {i : Nat} (h : l[i]? = some c) (ha : (l.take i).all gB = true) (hb : gB c = true) : (l.take (i + 1)).all gB = true := by
  obtain ⟨h1, h2⟩ := List.getElem?_eq_some_iff.1 h
  rw [List.take_succ_eq_append_getElem h1, h2, List.all_append, ha]
  simp [hb]
theorem mgood_x {H : AH} {l : List UInt8} (hl : l.length ≤ 4611686018427387000) : WC Tryz.prog (tabOf Tryz.prog NT0) S0 22 [.lit (.string ⟨l.toArray⟩)] H fun r h' => r = .lit (.bool (mGood l)) ∧ h' = H := by
  refine WC_fn Tryz.func22 rfl rfl ?_
  obtain ⟨n, hN⟩ : ∃ n, n = l.length := ⟨_, rfl⟩
  simp only [core, zrA, zrS, zrM, zrL, zrE, reduceCtorEq, zrD, ziE, ziL, ziN, Tryz.ntmps22, a_slen, isStrV_lit, strV_lit, ← hN]
  refine WB_for n (fun i t h => h = H ∧ (l.take i).all gB = true ∧ t.n = 56 ∧ t.get 0 = .lit (.string ⟨l.toArray⟩) ∧ t.get 6 = .lit (.int .i64 n) ∧ t.get 7 = .lit (.int .i64 i)) ?_ ?_ _ _ ?_
  · rintro i t h hlt hc ⟨rfl, hall, hn, g0, g6, g7⟩ ih
    have hwi := wrap_succ (n := n) hlt (by omega)
    obtain ⟨c, hcl⟩ : ∃ c, l[i]? = some c := ⟨_, List.getElem?_eq_getElem (by omega)⟩
    obtain ⟨b1, hb1⟩ : ∃ b, decide (97 ≤ (c.toNat : Int)) = b := ⟨_, rfl⟩
    obtain ⟨b2, hb2⟩ : ∃ b, decide ((c.toNat : Int) ≤ 122) = b := ⟨_, rfl⟩
    obtain ⟨b3, hb3⟩ : ∃ b, decide (65 ≤ (c.toNat : Int)) = b := ⟨_, rfl⟩
    obtain ⟨b4, hb4⟩ : ∃ b, decide ((c.toNat : Int) ≤ 90) = b := ⟨_, rfl⟩
    obtain ⟨b5, hb5⟩ : ∃ b, decide (48 ≤ (c.toNat : Int)) = b := ⟨_, rfl⟩
    obtain ⟨b6, hb6⟩ : ∃ b, decide ((c.toNat : Int) ≤ 57) = b := ⟨_, rfl⟩
    obtain ⟨b7, hb7⟩ : ∃ b, ((c.toNat : Int) == 46) = b := ⟨_, rfl⟩
    obtain ⟨b8, hb8⟩ : ∃ b, ((c.toNat : Int) == 95) = b := ⟨_, rfl⟩
    obtain ⟨b9, hb9⟩ : ∃ b, ((c.toNat : Int) == 45) = b := ⟨_, rfl⟩
    simp only [core, zrA, zrS, zrM, zrL, zrE, reduceCtorEq, zrD, ziE, ziL, ziN, hn, g0, g6, g7, hlt, hc, a_slen, a_six, isStrV_lit, strV_lit, ← hN, six_int, hcl, Int.toNat_natCast, Int.natCast_nonneg, hwi, aundef, hb1, hb2, hb3, hb4, hb5, hb6, hb7, hb8, hb9]
    cases b1 with
    | true =>
      try simp only [core, zrA, zrS, zrM, zrL, zrE, reduceCtorEq, zrD, ziE, ziL, ziN, hn, g0, g6, g7, hlt, hc, a_slen, a_six, isStrV_lit, strV_lit, ← hN, six_int, hcl, Int.toNat_natCast, Int.natCast_nonneg, hwi, aundef, hb1, hb2, hb3, hb4, hb5, hb6, hb7, hb8, hb9]
      cases b2 with
      | true =>
        try simp only [core, zrA, zrS, zrM, zrL, zrE, reduceCtorEq, zrD, ziE, ziL, ziN, hn, g0, g6, g7, hlt, hc, a_slen, a_six, isStrV_lit, strV_lit, ← hN, six_int, hcl, Int.toNat_natCast, Int.natCast_nonneg, hwi, aundef, hb1, hb2, hb3, hb4, hb5, hb6, hb7, hb8, hb9]
        refine ih _ _ ⟨rfl, take_all hcl hall (by simp [gB, hb1, hb2, hb3, hb4, hb5, hb6, hb7, hb8, hb9]), ?_⟩
        simp only [core, zrA, zrS, zrM, zrL, zrE, reduceCtorEq, zrD, ziE, ziL, ziN, hn, g0, g6, g7]
      | false =>
        try simp only [core, zrA, zrS, zrM, zrL, zrE, reduceCtorEq, zrD, ziE, ziL, ziN, hn, g0, g6, g7, hlt, hc, a_slen, a_six, isStrV_lit, strV_lit, ← hN, six_int, hcl, Int.toNat_natCast, Int.natCast_nonneg, hwi, aundef, hb1, hb2, hb3, hb4, hb5, hb6, hb7, hb8, hb9]
        cases b3 with
        | true =>
          try simp only [core, zrA, zrS, zrM, zrL, zrE, reduceCtorEq, zrD, ziE, ziL, ziN, hn, g0, g6, g7, hlt, hc, a_slen, a_six, isStrV_lit, strV_lit, ← hN, six_int, hcl, Int.toNat_natCast, Int.natCast_nonneg, hwi, aundef, hb1, hb2, hb3, hb4, hb5, hb6, hb7, hb8, hb9]
          cases b4 with
          | true =>
            try simp only [core, zrA, zrS, zrM, zrL, zrE, reduceCtorEq, zrD, ziE, ziL, ziN, hn, g0, g6, g7, hlt, hc, a_slen, a_six, isStrV_lit, strV_lit, ← hN, six_int, hcl, Int.toNat_natCast, Int.natCast_nonneg, hwi, aundef, hb1, hb2, hb3, hb4, hb5, hb6, hb7, hb8, hb9]
            refine ih _ _ ⟨rfl, take_all hcl hall (by simp [gB, hb1, hb2, hb3, hb4, hb5, hb6, hb7, hb8, hb9]), ?_⟩
            simp only [core, zrA, zrS, zrM, zrL, zrE, reduceCtorEq, zrD, ziE, ziL, ziN, hn, g0, g6, g7]
          | false =>
            try simp only [core, zrA, zrS, zrM, zrL, zrE, reduceCtorEq, zrD, ziE, ziL, ziN, hn, g0, g6, g7, hlt, hc, a_slen, a_six, isStrV_lit, strV_lit, ← hN, six_int, hcl, Int.toNat_natCast, Int.natCast_nonneg, hwi, aundef, hb1, hb2, hb3, hb4, hb5, hb6, hb7, hb8, hb9]
            cases b5 with
            | true =>
              try simp only [core, zrA, zrS, zrM, zrL, zrE, reduceCtorEq, zrD, ziE, ziL, ziN, hn, g0, g6, g7, hlt, hc, a_slen, a_six, isStrV_lit, strV_lit, ← hN, six_int, hcl, Int.toNat_natCast, Int.natCast_nonneg, hwi, aundef, hb1, hb2, hb3, hb4, hb5, hb6, hb7, hb8, hb9]
              cases b6 with
              | true =>
                try simp only [core, zrA, zrS, zrM, zrL, zrE, reduceCtorEq, zrD, ziE, ziL, ziN, hn, g0, g6, g7, hlt, hc, a_slen, a_six, isStrV_lit, strV_lit, ← hN, six_int, hcl, Int.toNat_natCast, Int.natCast_nonneg, hwi, aundef, hb1, hb2, hb3, hb4, hb5, hb6, hb7, hb8, hb9]
                refine ih _ _ ⟨rfl, take_all hcl hall (by simp [gB, hb1, hb2, hb3, hb4, hb5, hb6, hb7, hb8, hb9]), ?_⟩
                simp only [core, zrA, zrS, zrM, zrL, zrE, reduceCtorEq, zrD, ziE, ziL, ziN, hn, g0, g6, g7]
              | false =>
                try simp only [core, zrA, zrS, zrM, zrL, zrE, reduceCtorEq, zrD, ziE, ziL, ziN, hn, g0, g6, g7, hlt, hc, a_slen, a_six, isStrV_lit, strV_lit, ← hN, six_int, hcl, Int.toNat_natCast, Int.natCast_nonneg, hwi, aundef, hb1, hb2, hb3, hb4, hb5, hb6, hb7, hb8, hb9]
                cases b7 with
                | true =>
                  try simp only [core, zrA, zrS, zrM, zrL, zrE, reduceCtorEq, zrD, ziE, ziL, ziN, hn, g0, g6, g7, hlt, hc, a_slen, a_six, isStrV_lit, strV_lit, ← hN, six_int, hcl, Int.toNat_natCast, Int.natCast_nonneg, hwi, aundef, hb1, hb2, hb3, hb4, hb5, hb6, hb7, hb8, hb9]
                  refine ih _ _ ⟨rfl, take_all hcl hall (by simp [gB, hb1, hb2, hb3, hb4, hb5, hb6, hb7, hb8, hb9]), ?_⟩
                  simp only [core, zrA, zrS, zrM, zrL, zrE, reduceCtorEq, zrD, ziE, ziL, ziN, hn, g0, g6, g7]
                | false =>
                  try simp only [core, zrA, zrS, zrM, zrL, zrE, reduceCtorEq, zrD, ziE, ziL, ziN, hn, g0, g6, g7, hlt, hc, a_slen, a_six, isStrV_lit, strV_lit, ← hN, six_int, hcl, Int.toNat_natCast, Int.natCast_nonneg, hwi, aundef, hb1, hb2, hb3, hb4, hb5, hb6, hb7, hb8, hb9]
                  cases b8 with
                  | true =>
                    try simp only [core, zrA, zrS, zrM, zrL, zrE, reduceCtorEq, zrD, ziE, ziL, ziN, hn, g0, g6, g7, hlt, hc, a_slen, a_six, isStrV_lit, strV_lit, ← hN, six_int, hcl, Int.toNat_natCast, Int.natCast_nonneg, hwi, aundef, hb1, hb2, hb3, hb4, hb5, hb6, hb7, hb8, hb9]
                    refine ih _ _ ⟨rfl, take_all hcl hall (by simp [gB, hb1, hb2, hb3, hb4, hb5, hb6, hb7, hb8, hb9]), ?_⟩
                    simp only [core, zrA, zrS, zrM, zrL, zrE, reduceCtorEq, zrD, ziE, ziL, ziN, hn, g0, g6, g7]
                  | false =>
                    try simp only [core, zrA, zrS, zrM, zrL, zrE, reduceCtorEq, zrD, ziE, ziL, ziN, hn, g0, g6, g7, hlt, hc, a_slen, a_six, isStrV_lit, strV_lit, ← hN, six_int, hcl, Int.toNat_natCast, Int.natCast_nonneg, hwi, aundef, hb1, hb2, hb3, hb4, hb5, hb6, hb7, hb8, hb9]
                    cases b9 with
                    | true =>
                      try simp only [core, zrA, zrS, zrM, zrL, zrE, reduceCtorEq, zrD, ziE, ziL, ziN, hn, g0, g6, g7, hlt, hc, a_slen, a_six, isStrV_lit, strV_lit, ← hN, six_int, hcl, Int.toNat_natCast, Int.natCast_nonneg, hwi, aundef, hb1, hb2, hb3, hb4, hb5, hb6, hb7, hb8, hb9]
                      refine ih _ _ ⟨rfl, take_all hcl hall (by simp [gB, hb1, hb2, hb3, hb4, hb5, hb6, hb7, hb8, hb9]), ?_⟩
                      simp only [core, zrA, zrS, zrM, zrL, zrE, reduceCtorEq, zrD, ziE, ziL, ziN, hn, g0, g6, g7]
                    | false =>
                      try simp only [core, zrA, zrS, zrM, zrL, zrE, reduceCtorEq, zrD, ziE, ziL, ziN, hn, g0, g6, g7, hlt, hc, a_slen, a_six, isStrV_lit, strV_lit, ← hN, six_int, hcl, Int.toNat_natCast, Int.natCast_nonneg, hwi, aundef, hb1, hb2, hb3, hb4, hb5, hb6, hb7, hb8, hb9]
                      rw [mGood_bad hcl (by simp [gB, hb1, hb2, hb3, hb4, hb5, hb6, hb7, hb8, hb9])]
            | false =>
              try simp only [core, zrA, zrS, zrM, zrL, zrE, reduceCtorEq, zrD, ziE, ziL, ziN, hn, g0, g6, g7, hlt, hc, a_slen, a_six, isStrV_lit, strV_lit, ← hN, six_int, hcl, Int.toNat_natCast, Int.natCast_nonneg, hwi, aundef, hb1, hb2, hb3, hb4, hb5, hb6, hb7, hb8, hb9]
              cases b7 with
              | true =>
                try simp only [core, zrA, zrS, zrM, zrL, zrE, reduceCtorEq, zrD, ziE, ziL, ziN, hn, g0, g6, g7, hlt, hc, a_slen, a_six, isStrV_lit, strV_lit, ← hN, six_int, hcl, Int.toNat_natCast, Int.natCast_nonneg, hwi, aundef, hb1, hb2, hb3, hb4, hb5, hb6, hb7, hb8, hb9]
                refine ih _ _ ⟨rfl, take_all hcl hall (by simp [gB, hb1, hb2, hb3, hb4, hb5, hb6, hb7, hb8, hb9]), ?_⟩
                simp only [core, zrA, zrS, zrM, zrL, zrE, reduceCtorEq, zrD, ziE, ziL, ziN, hn, g0, g6, g7]
              | false =>
                try simp only [core, zrA, zrS, zrM, zrL, zrE, reduceCtorEq, zrD, ziE, ziL, ziN, hn, g0, g6, g7, hlt, hc, a_slen, a_six, isStrV_lit, strV_lit, ← hN, six_int, hcl, Int.toNat_natCast, Int.natCast_nonneg, hwi, aundef, hb1, hb2, hb3, hb4, hb5, hb6, hb7, hb8, hb9]
                cases b8 with
                | true =>
                  try simp only [core, zrA, zrS, zrM, zrL, zrE, reduceCtorEq, zrD, ziE, ziL, ziN, hn, g0, g6, g7, hlt, hc, a_slen, a_six, isStrV_lit, strV_lit, ← hN, six_int, hcl, Int.toNat_natCast, Int.natCast_nonneg, hwi, aundef, hb1, hb2, hb3, hb4, hb5, hb6, hb7, hb8, hb9]
                  refine ih _ _ ⟨rfl, take_all hcl hall (by simp [gB, hb1, hb2, hb3, hb4, hb5, hb6, hb7, hb8, hb9]), ?_⟩
                  simp only [core, zrA, zrS, zrM, zrL, zrE, reduceCtorEq, zrD, ziE, ziL, ziN, hn, g0, g6, g7]
                | false =>
                  try simp only [core, zrA, zrS, zrM, zrL, zrE, reduceCtorEq, zrD, ziE, ziL, ziN, hn, g0, g6, g7, hlt, hc, a_slen, a_six, isStrV_lit, strV_lit, ← hN, six_int, hcl, Int.toNat_natCast, Int.natCast_nonneg, hwi, aundef, hb1, hb2, hb3, hb4, hb5, hb6, hb7, hb8, hb9]
                  cases b9 with
                  | true =>
                    try simp only [core, zrA, zrS, zrM, zrL, zrE, reduceCtorEq, zrD, ziE, ziL, ziN, hn, g0, g6, g7, hlt, hc, a_slen, a_six, isStrV_lit, strV_lit, ← hN, six_int, hcl, Int.toNat_natCast, Int.natCast_nonneg, hwi, aundef, hb1, hb2, hb3, hb4, hb5, hb6, hb7, hb8, hb9]
                    refine ih _ _ ⟨rfl, take_all hcl hall (by simp [gB, hb1, hb2, hb3, hb4, hb5, hb6, hb7, hb8, hb9]), ?_⟩
                    simp only [core, zrA, zrS, zrM, zrL, zrE, reduceCtorEq, zrD, ziE, ziL, ziN, hn, g0, g6, g7]
                  | false =>
                    try simp only [core, zrA, zrS, zrM, zrL, zrE, reduceCtorEq, zrD, ziE, ziL, ziN, hn, g0, g6, g7, hlt, hc, a_slen, a_six, isStrV_lit, strV_lit, ← hN, six_int, hcl, Int.toNat_natCast, Int.natCast_nonneg, hwi, aundef, hb1, hb2, hb3, hb4, hb5, hb6, hb7, hb8, hb9]
                    rw [mGood_bad hcl (by simp [gB, hb1, hb2, hb3, hb4, hb5, hb6, hb7, hb8, hb9])]
        | false =>
          try simp only [core, zrA, zrS, zrM, zrL, zrE, reduceCtorEq, zrD, ziE, ziL, ziN, hn, g0, g6, g7, hlt, hc, a_slen, a_six, isStrV_lit, strV_lit, ← hN, six_int, hcl, Int.toNat_natCast, Int.natCast_nonneg, hwi, aundef, hb1, hb2, hb3, hb4, hb5, hb6, hb7, hb8, hb9]
          cases b5 with
          | true =>
            try simp only [core, zrA, zrS, zrM, zrL, zrE, reduceCtorEq, zrD, ziE, ziL, ziN, hn, g0, g6, g7, hlt, hc, a_slen, a_six, isStrV_lit, strV_lit, ← hN, six_int, hcl, Int.toNat_natCast, Int.natCast_nonneg, hwi, aundef, hb1, hb2, hb3, hb4, hb5, hb6, hb7, hb8, hb9]
            cases b6 with
            | true =>
              try simp only [core, zrA, zrS, zrM, zrL, zrE, reduceCtorEq, zrD, ziE, ziL, ziN, hn, g0, g6, g7, hlt, hc, a_slen, a_six, isStrV_lit, strV_lit, ← hN, six_int, hcl, Int.toNat_natCast, Int.natCast_nonneg, hwi, aundef, hb1, hb2, hb3, hb4, hb5, hb6, hb7, hb8, hb9]
              refine ih _ _ ⟨rfl, take_all hcl hall (by simp [gB, hb1, hb2, hb3, hb4, hb5, hb6, hb7, hb8, hb9]), ?_⟩
              simp only [core, zrA, zrS, zrM, zrL, zrE, reduceCtorEq, zrD, ziE, ziL, ziN, hn, g0, g6, g7]
            | false =>
              try simp only [core, zrA, zrS, zrM, zrL, zrE, reduceCtorEq, zrD, ziE, ziL, ziN, hn, g0, g6, g7, hlt, hc, a_slen, a_six, isStrV_lit, strV_lit, ← hN, six_int, hcl, Int.toNat_natCast, Int.natCast_nonneg, hwi, aundef, hb1, hb2, hb3, hb4, hb5, hb6, hb7, hb8, hb9]
              cases b7 with
              | true =>
                try simp only [core, zrA, zrS, zrM, zrL, zrE, reduceCtorEq, zrD, ziE, ziL, ziN, hn, g0, g6, g7, hlt, hc, a_slen, a_six, isStrV_lit, strV_lit, ← hN, six_int, hcl, Int.toNat_natCast, Int.natCast_nonneg, hwi, aundef, hb1, hb2, hb3, hb4, hb5, hb6, hb7, hb8, hb9]
                refine ih _ _ ⟨rfl, take_all hcl hall (by simp [gB, hb1, hb2, hb3, hb4, hb5, hb6, hb7, hb8, hb9]), ?_⟩
                simp only [core, zrA, zrS, zrM, zrL, zrE, reduceCtorEq, zrD, ziE, ziL, ziN, hn, g0, g6, g7]
              | false =>
                try simp only [core, zrA, zrS, zrM, zrL, zrE, reduceCtorEq, zrD, ziE, ziL, ziN, hn, g0, g6, g7, hlt, hc, a_slen, a_six, isStrV_lit, strV_lit, ← hN, six_int, hcl, Int.toNat_natCast, Int.natCast_nonneg, hwi, aundef, hb1, hb2, hb3, hb4, hb5, hb6, hb7, hb8, hb9]
                cases b8 with
                | true =>
                  try simp only [core, zrA, zrS, zrM, zrL, zrE, reduceCtorEq, zrD, ziE, ziL, ziN, hn, g0, g6, g7, hlt, hc, a_slen, a_six, isStrV_lit, strV_lit, ← hN, six_int, hcl, Int.toNat_natCast, Int.natCast_nonneg, hwi, aundef, hb1, hb2, hb3, hb4, hb5, hb6, hb7, hb8, hb9]
                  refine ih _ _ ⟨rfl, take_all hcl hall (by simp [gB, hb1, hb2, hb3, hb4, hb5, hb6, hb7, hb8, hb9]), ?_⟩
                  simp only [core, zrA, zrS, zrM, zrL, zrE, reduceCtorEq, zrD, ziE, ziL, ziN, hn, g0, g6, g7]
                | false =>
                  try simp only [core, zrA, zrS, zrM, zrL, zrE, reduceCtorEq, zrD, ziE, ziL, ziN, hn, g0, g6, g7, hlt, hc, a_slen, a_six, isStrV_lit, strV_lit, ← hN, six_int, hcl, Int.toNat_natCast, Int.natCast_nonneg, hwi, aundef, hb1, hb2, hb3, hb4, hb5, hb6, hb7, hb8, hb9]
                  cases b9 with
                  | true =>
                    try simp only [core, zrA, zrS, zrM, zrL, zrE, reduceCtorEq, zrD, ziE, ziL, ziN, hn, g0, g6, g7, hlt, hc, a_slen, a_six, isStrV_lit, strV_lit, ← hN, six_int, hcl, Int.toNat_natCast, Int.natCast_nonneg, hwi, aundef, hb1, hb2, hb3, hb4, hb5, hb6, hb7, hb8, hb9]
                    refine ih _ _ ⟨rfl, take_all hcl hall (by simp [gB, hb1, hb2, hb3, hb4, hb5, hb6, hb7, hb8, hb9]), ?_⟩
                    simp only [core, zrA, zrS, zrM, zrL, zrE, reduceCtorEq, zrD, ziE, ziL, ziN, hn, g0, g6, g7]
                  | false =>
                    try simp only [core, zrA, zrS, zrM, zrL, zrE, reduceCtorEq, zrD, ziE, ziL, ziN, hn, g0, g6, g7, hlt, hc, a_slen, a_six, isStrV_lit, strV_lit, ← hN, six_int, hcl, Int.toNat_natCast, Int.natCast_nonneg, hwi, aundef, hb1, hb2, hb3, hb4, hb5, hb6, hb7, hb8, hb9]
                    rw [mGood_bad hcl (by simp [gB, hb1, hb2, hb3, hb4, hb5, hb6, hb7, hb8, hb9])]
          | false =>
            try simp only [core, zrA, zrS, zrM, zrL, zrE, reduceCtorEq, zrD, ziE, ziL, ziN, hn, g0, g6, g7, hlt, hc, a_slen, a_six, isStrV_lit, strV_lit, ← hN, six_int, hcl, Int.toNat_natCast, Int.natCast_nonneg, hwi, aundef, hb1, hb2, hb3, hb4, hb5, hb6, hb7, hb8, hb9]
            cases b7 with
            | true =>
              try simp only [core, zrA, zrS, zrM, zrL, zrE, reduceCtorEq, zrD, ziE, ziL, ziN, hn, g0, g6, g7, hlt, hc, a_slen, a_six, isStrV_lit, strV_lit, ← hN, six_int, hcl, Int.toNat_natCast, Int.natCast_nonneg, hwi, aundef, hb1, hb2, hb3, hb4, hb5, hb6, hb7, hb8, hb9]
              refine ih _ _ ⟨rfl, take_all hcl hall (by simp [gB, hb1, hb2, hb3, hb4, hb5, hb6, hb7, hb8, hb9]), ?_⟩
              simp only [core, zrA, zrS, zrM, zrL, zrE, reduceCtorEq, zrD, ziE, ziL, ziN, hn, g0, g6, g7]
            | false =>
              try simp only [core, zrA, zrS, zrM, zrL, zrE, reduceCtorEq, zrD, ziE, ziL, ziN, hn, g0, g6, g7, hlt, hc, a_slen, a_six, isStrV_lit, strV_lit, ← hN, six_int, hcl, Int.toNat_natCast, Int.natCast_nonneg, hwi, aundef, hb1, hb2, hb3, hb4, hb5, hb6, hb7, hb8, hb9]
              cases b8 with
              | true =>
                try simp only [core, zrA, zrS, zrM, zrL, zrE, reduceCtorEq, zrD, ziE, ziL, ziN, hn, g0, g6, g7, hlt, hc, a_slen, a_six, isStrV_lit, strV_lit, ← hN, six_int, hcl, Int.toNat_natCast, Int.natCast_nonneg, hwi, aundef, hb1, hb2, hb3, hb4, hb5, hb6, hb7, hb8, hb9]
                refine ih _ _ ⟨rfl, take_all hcl hall (by simp [gB, hb1, hb2, hb3, hb4, hb5, hb6, hb7, hb8, hb9]), ?_⟩
                simp only [core, zrA, zrS, zrM, zrL, zrE, reduceCtorEq, zrD, ziE, ziL, ziN, hn, g0, g6, g7]
              | false =>
                try simp only [core, zrA, zrS, zrM, zrL, zrE, reduceCtorEq, zrD, ziE, ziL, ziN, hn, g0, g6, g7, hlt, hc, a_slen, a_six, isStrV_lit, strV_lit, ← hN, six_int, hcl, Int.toNat_natCast, Int.natCast_nonneg, hwi, aundef, hb1, hb2, hb3, hb4, hb5, hb6, hb7, hb8, hb9]
                cases b9 with
                | true =>
                  try simp only [core, zrA, zrS, zrM, zrL, zrE, reduceCtorEq, zrD, ziE, ziL, ziN, hn, g0, g6, g7, hlt, hc, a_slen, a_six, isStrV_lit, strV_lit, ← hN, six_int, hcl, Int.toNat_natCast, Int.natCast_nonneg, hwi, aundef, hb1, hb2, hb3, hb4, hb5, hb6, hb7, hb8, hb9]
                  refine ih _ _ ⟨rfl, take_all hcl hall (by simp [gB, hb1, hb2, hb3, hb4, hb5, hb6, hb7, hb8, hb9]), ?_⟩
                  simp only [core, zrA, zrS, zrM, zrL, zrE, reduceCtorEq, zrD, ziE, ziL, ziN, hn, g0, g6, g7]
                | false =>
                  try simp only [core, zrA, zrS, zrM, zrL, zrE, reduceCtorEq, zrD, ziE, ziL, ziN, hn, g0, g6, g7, hlt, hc, a_slen, a_six, isStrV_lit, strV_lit, ← hN, six_int, hcl, Int.toNat_natCast, Int.natCast_nonneg, hwi, aundef, hb1, hb2, hb3, hb4, hb5, hb6, hb7, hb8, hb9]
                  rw [mGood_bad hcl (by simp [gB, hb1, hb2, hb3, hb4, hb5, hb6, hb7, hb8, hb9])]
    | false =>
      try simp only [core, zrA, zrS, zrM, zrL, zrE, reduceCtorEq, zrD, ziE, ziL, ziN, hn, g0, g6, g7, hlt, hc, a_slen, a_six, isStrV_lit, strV_lit, ← hN, six_int, hcl, Int.toNat_natCast, Int.natCast_nonneg, hwi, aundef, hb1, hb2, hb3, hb4, hb5, hb6, hb7, hb8, hb9]
      cases b3 with
      | true =>
        try simp only [core, zrA, zrS, zrM, zrL, zrE, reduceCtorEq, zrD, ziE, ziL, ziN, hn, g0, g6, g7, hlt, hc, a_slen, a_six, isStrV_lit, strV_lit, ← hN, six_int, hcl, Int.toNat_natCast, Int.natCast_nonneg, hwi, aundef, hb1, hb2, hb3, hb4, hb5, hb6, hb7, hb8, hb9]
        cases b4 with
        | true =>
          try simp only [core, zrA, zrS, zrM, zrL, zrE, reduceCtorEq, zrD, ziE, ziL, ziN, hn, g0, g6, g7, hlt, hc, a_slen, a_six, isStrV_lit, strV_lit, ← hN, six_int, hcl, Int.toNat_natCast, Int.natCast_nonneg, hwi, aundef, hb1, hb2, hb3, hb4, hb5, hb6, hb7, hb8, hb9]
          refine ih _ _ ⟨rfl, take_all hcl hall (by simp [gB, hb1, hb2, hb3, hb4, hb5, hb6, hb7, hb8, hb9]), ?_⟩
          simp only [core, zrA, zrS, zrM, zrL, zrE, reduceCtorEq, zrD, ziE, ziL, ziN, hn, g0, g6, g7]
        | false =>
          try simp only [core, zrA, zrS, zrM, zrL, zrE, reduceCtorEq, zrD, ziE, ziL, ziN, hn, g0, g6, g7, hlt, hc, a_slen, a_six, isStrV_lit, strV_lit, ← hN, six_int, hcl, Int.toNat_natCast, Int.natCast_nonneg, hwi, aundef, hb1, hb2, hb3, hb4, hb5, hb6, hb7, hb8, hb9]
          cases b5 with
          | true =>
            try simp only [core, zrA, zrS, zrM, zrL, zrE, reduceCtorEq, zrD, ziE, ziL, ziN, hn, g0, g6, g7, hlt, hc, a_slen, a_six, isStrV_lit, strV_lit, ← hN, six_int, hcl, Int.toNat_natCast, Int.natCast_nonneg, hwi, aundef, hb1, hb2, hb3, hb4, hb5, hb6, hb7, hb8, hb9]
            cases b6 with
            | true =>
              try simp only [core, zrA, zrS, zrM, zrL, zrE, reduceCtorEq, zrD, ziE, ziL, ziN, hn, g0, g6, g7, hlt, hc, a_slen, a_six, isStrV_lit, strV_lit, ← hN, six_int, hcl, Int.toNat_natCast, Int.natCast_nonneg, hwi, aundef, hb1, hb2, hb3, hb4, hb5, hb6, hb7, hb8, hb9]
              refine ih _ _ ⟨rfl, take_all hcl hall (by simp [gB, hb1, hb2, hb3, hb4, hb5, hb6, hb7, hb8, hb9]), ?_⟩
              simp only [core, zrA, zrS, zrM, zrL, zrE, reduceCtorEq, zrD, ziE, ziL, ziN, hn, g0, g6, g7]
            | false =>
              try simp only [core, zrA, zrS, zrM, zrL, zrE, reduceCtorEq, zrD, ziE, ziL, ziN, hn, g0, g6, g7, hlt, hc, a_slen, a_six, isStrV_lit, strV_lit, ← hN, six_int, hcl, Int.toNat_natCast, Int.natCast_nonneg, hwi, aundef, hb1, hb2, hb3, hb4, hb5, hb6, hb7, hb8, hb9]
              cases b7 with
              | true =>
                try simp only [core, zrA, zrS, zrM, zrL, zrE, reduceCtorEq, zrD, ziE, ziL, ziN, hn, g0, g6, g7, hlt, hc, a_slen, a_six, isStrV_lit, strV_lit, ← hN, six_int, hcl, Int.toNat_natCast, Int.natCast_nonneg, hwi, aundef, hb1, hb2, hb3, hb4, hb5, hb6, hb7, hb8, hb9]
                refine ih _ _ ⟨rfl, take_all hcl hall (by simp [gB, hb1, hb2, hb3, hb4, hb5, hb6, hb7, hb8, hb9]), ?_⟩
                simp only [core, zrA, zrS, zrM, zrL, zrE, reduceCtorEq, zrD, ziE, ziL, ziN, hn, g0, g6, g7]
              | false =>
                try simp only [core, zrA, zrS, zrM, zrL, zrE, reduceCtorEq, zrD, ziE, ziL, ziN, hn, g0, g6, g7, hlt, hc, a_slen, a_six, isStrV_lit, strV_lit, ← hN, six_int, hcl, Int.toNat_natCast, Int.natCast_nonneg, hwi, aundef, hb1, hb2, hb3, hb4, hb5, hb6, hb7, hb8, hb9]
                cases b8 with
                | true =>
                  try simp only [core, zrA, zrS, zrM, zrL, zrE, reduceCtorEq, zrD, ziE, ziL, ziN, hn, g0, g6, g7, hlt, hc, a_slen, a_six, isStrV_lit, strV_lit, ← hN, six_int, hcl, Int.toNat_natCast, Int.natCast_nonneg, hwi, aundef, hb1, hb2, hb3, hb4, hb5, hb6, hb7, hb8, hb9]
                  refine ih _ _ ⟨rfl, take_all hcl hall (by simp [gB, hb1, hb2, hb3, hb4, hb5, hb6, hb7, hb8, hb9]), ?_⟩
                  simp only [core, zrA, zrS, zrM, zrL, zrE, reduceCtorEq, zrD, ziE, ziL, ziN, hn, g0, g6, g7]
                | false =>
                  try simp only [core, zrA, zrS, zrM, zrL, zrE, reduceCtorEq, zrD, ziE, ziL, ziN, hn, g0, g6, g7, hlt, hc, a_slen, a_six, isStrV_lit, strV_lit, ← hN, six_int, hcl, Int.toNat_natCast, Int.natCast_nonneg, hwi, aundef, hb1, hb2, hb3, hb4, hb5, hb6, hb7, hb8, hb9]
                  cases b9 with
                  | true =>
                    try simp only [core, zrA, zrS, zrM, zrL, zrE, reduceCtorEq, zrD, ziE, ziL, ziN, hn, g0, g6, g7, hlt, hc, a_slen, a_six, isStrV_lit, strV_lit, ← hN, six_int, hcl, Int.toNat_natCast, Int.natCast_nonneg, hwi, aundef, hb1, hb2, hb3, hb4, hb5, hb6, hb7, hb8, hb9]
                    refine ih _ _ ⟨rfl, take_all hcl hall (by simp [gB, hb1, hb2, hb3, hb4, hb5, hb6, hb7, hb8, hb9]), ?_⟩
                    simp only [core, zrA, zrS, zrM, zrL, zrE, reduceCtorEq, zrD, ziE, ziL, ziN, hn, g0, g6, g7]
                  | false =>
                    try simp only [core, zrA, zrS, zrM, zrL, zrE, reduceCtorEq, zrD, ziE, ziL, ziN, hn, g0, g6, g7, hlt, hc, a_slen, a_six, isStrV_lit, strV_lit, ← hN, six_int, hcl, Int.toNat_natCast, Int.natCast_nonneg, hwi, aundef, hb1, hb2, hb3, hb4, hb5, hb6, hb7, hb8, hb9]
                    rw [mGood_bad hcl (by simp [gB, hb1, hb2, hb3, hb4, hb5, hb6, hb7, hb8, hb9])]
          | false =>
            try simp only [core, zrA, zrS, zrM, zrL, zrE, reduceCtorEq, zrD, ziE, ziL, ziN, hn, g0, g6, g7, hlt, hc, a_slen, a_six, isStrV_lit, strV_lit, ← hN, six_int, hcl, Int.toNat_natCast, Int.natCast_nonneg, hwi, aundef, hb1, hb2, hb3, hb4, hb5, hb6, hb7, hb8, hb9]
            cases b7 with
            | true =>
              try simp only [core, zrA, zrS, zrM, zrL, zrE, reduceCtorEq, zrD, ziE, ziL, ziN, hn, g0, g6, g7, hlt, hc, a_slen, a_six, isStrV_lit, strV_lit, ← hN, six_int, hcl, Int.toNat_natCast, Int.natCast_nonneg, hwi, aundef, hb1, hb2, hb3, hb4, hb5, hb6, hb7, hb8, hb9]
              refine ih _ _ ⟨rfl, take_all hcl hall (by simp [gB, hb1, hb2, hb3, hb4, hb5, hb6, hb7, hb8, hb9]), ?_⟩
              simp only [core, zrA, zrS, zrM, zrL, zrE, reduceCtorEq, zrD, ziE, ziL, ziN, hn, g0, g6, g7]
            | false =>
              try simp only [core, zrA, zrS, zrM, zrL, zrE, reduceCtorEq, zrD, ziE, ziL, ziN, hn, g0, g6, g7, hlt, hc, a_slen, a_six, isStrV_lit, strV_lit, ← hN, six_int, hcl, Int.toNat_natCast, Int.natCast_nonneg, hwi, aundef, hb1, hb2, hb3, hb4, hb5, hb6, hb7, hb8, hb9]
              cases b8 with
              | true =>
                try simp only [core, zrA, zrS, zrM, zrL, zrE, reduceCtorEq, zrD, ziE, ziL, ziN, hn, g0, g6, g7, hlt, hc, a_slen, a_six, isStrV_lit, strV_lit, ← hN, six_int, hcl, Int.toNat_natCast, Int.natCast_nonneg, hwi, aundef, hb1, hb2, hb3, hb4, hb5, hb6, hb7, hb8, hb9]
                refine ih _ _ ⟨rfl, take_all hcl hall (by simp [gB, hb1, hb2, hb3, hb4, hb5, hb6, hb7, hb8, hb9]), ?_⟩
                simp only [core, zrA, zrS, zrM, zrL, zrE, reduceCtorEq, zrD, ziE, ziL, ziN, hn, g0, g6, g7]
              | false =>
                try simp only [core, zrA, zrS, zrM, zrL, zrE, reduceCtorEq, zrD, ziE, ziL, ziN, hn, g0, g6, g7, hlt, hc, a_slen, a_six, isStrV_lit, strV_lit, ← hN, six_int, hcl, Int.toNat_natCast, Int.natCast_nonneg, hwi, aundef, hb1, hb2, hb3, hb4, hb5, hb6, hb7, hb8, hb9]
                cases b9 with
                | true =>
                  try simp only [core, zrA, zrS, zrM, zrL, zrE, reduceCtorEq, zrD, ziE, ziL, ziN, hn, g0, g6, g7, hlt, hc, a_slen, a_six, isStrV_lit, strV_lit, ← hN, six_int, hcl, Int.toNat_natCast, Int.natCast_nonneg, hwi, aundef, hb1, hb2, hb3, hb4, hb5, hb6, hb7, hb8, hb9]
                  refine ih _ _ ⟨rfl, take_all hcl hall (by simp [gB, hb1, hb2, hb3, hb4, hb5, hb6, hb7, hb8, hb9]), ?_⟩
                  simp only [core, zrA, zrS, zrM, zrL, zrE, reduceCtorEq, zrD, ziE, ziL, ziN, hn, g0, g6, g7]
                | false =>
                  try simp only [core, zrA, zrS, zrM, zrL, zrE, reduceCtorEq, zrD, ziE, ziL, ziN, hn, g0, g6, g7, hlt, hc, a_slen, a_six, isStrV_lit, strV_lit, ← hN, six_int, hcl, Int.toNat_natCast, Int.natCast_nonneg, hwi, aundef, hb1, hb2, hb3, hb4, hb5, hb6, hb7, hb8, hb9]
                  rw [mGood_bad hcl (by simp [gB, hb1, hb2, hb3, hb4, hb5, hb6, hb7, hb8, hb9])]
      | false =>
        try simp only [core, zrA, zrS, zrM, zrL, zrE, reduceCtorEq, zrD, ziE, ziL, ziN, hn, g0, g6, g7, hlt, hc, a_slen, a_six, isStrV_lit, strV_lit, ← hN, six_int, hcl, Int.toNat_natCast, Int.natCast_nonneg, hwi, aundef, hb1, hb2, hb3, hb4, hb5, hb6, hb7, hb8, hb9]
        cases b5 with
        | true =>
          try simp only [core, zrA, zrS, zrM, zrL, zrE, reduceCtorEq, zrD, ziE, ziL, ziN, hn, g0, g6, g7, hlt, hc, a_slen, a_six, isStrV_lit, strV_lit, ← hN, six_int, hcl, Int.toNat_natCast, Int.natCast_nonneg, hwi, aundef, hb1, hb2, hb3, hb4, hb5, hb6, hb7, hb8, hb9]
          cases b6 with
          | true =>
            try simp only [core, zrA, zrS, zrM, zrL, zrE, reduceCtorEq, zrD, ziE, ziL, ziN, hn, g0, g6, g7, hlt, hc, a_slen, a_six, isStrV_lit, strV_lit, ← hN, six_int, hcl, Int.toNat_natCast, Int.natCast_nonneg, hwi, aundef, hb1, hb2, hb3, hb4, hb5, hb6, hb7, hb8, hb9]
            refine ih _ _ ⟨rfl, take_all hcl hall (by simp [gB, hb1, hb2, hb3, hb4, hb5, hb6, hb7, hb8, hb9]), ?_⟩
            simp only [core, zrA, zrS, zrM, zrL, zrE, reduceCtorEq, zrD, ziE, ziL, ziN, hn, g0, g6, g7]
          | false =>
            try simp only [core, zrA, zrS, zrM, zrL, zrE, reduceCtorEq, zrD, ziE, ziL, ziN, hn, g0, g6, g7, hlt, hc, a_slen, a_six, isStrV_lit, strV_lit, ← hN, six_int, hcl, Int.toNat_natCast, Int.natCast_nonneg, hwi, aundef, hb1, hb2, hb3, hb4, hb5, hb6, hb7, hb8, hb9]
            cases b7 with
            | true =>
              try simp only [core, zrA, zrS, zrM, zrL, zrE, reduceCtorEq, zrD, ziE, ziL, ziN, hn, g0, g6, g7, hlt, hc, a_slen, a_six, isStrV_lit, strV_lit, ← hN, six_int, hcl, Int.toNat_natCast, Int.natCast_nonneg, hwi, aundef, hb1, hb2, hb3, hb4, hb5, hb6, hb7, hb8, hb9]
              refine ih _ _ ⟨rfl, take_all hcl hall (by simp [gB, hb1, hb2, hb3, hb4, hb5, hb6, hb7, hb8, hb9]), ?_⟩
              simp only [core, zrA, zrS, zrM, zrL, zrE, reduceCtorEq, zrD, ziE, ziL, ziN, hn, g0, g6, g7]
            | false =>
              try simp only [core, zrA, zrS, zrM, zrL, zrE, reduceCtorEq, zrD, ziE, ziL, ziN, hn, g0, g6, g7, hlt, hc, a_slen, a_six, isStrV_lit, strV_lit, ← hN, six_int, hcl, Int.toNat_natCast, Int.natCast_nonneg, hwi, aundef, hb1, hb2, hb3, hb4, hb5, hb6, hb7, hb8, hb9]
              cases b8 with
              | true =>
                try simp only [core, zrA, zrS, zrM, zrL, zrE, reduceCtorEq, zrD, ziE, ziL, ziN, hn, g0, g6, g7, hlt, hc, a_slen, a_six, isStrV_lit, strV_lit, ← hN, six_int, hcl, Int.toNat_natCast, Int.natCast_nonneg, hwi, aundef, hb1, hb2, hb3, hb4, hb5, hb6, hb7, hb8, hb9]
                refine ih _ _ ⟨rfl, take_all hcl hall (by simp [gB, hb1, hb2, hb3, hb4, hb5, hb6, hb7, hb8, hb9]), ?_⟩
                simp only [core, zrA, zrS, zrM, zrL, zrE, reduceCtorEq, zrD, ziE, ziL, ziN, hn, g0, g6, g7]
              | false =>
                try simp only [core, zrA, zrS, zrM, zrL, zrE, reduceCtorEq, zrD, ziE, ziL, ziN, hn, g0, g6, g7, hlt, hc, a_slen, a_six, isStrV_lit, strV_lit, ← hN, six_int, hcl, Int.toNat_natCast, Int.natCast_nonneg, hwi, aundef, hb1, hb2, hb3, hb4, hb5, hb6, hb7, hb8, hb9]
                cases b9 with
                | true =>
                  try simp only [core, zrA, zrS, zrM, zrL, zrE, reduceCtorEq, zrD, ziE, ziL, ziN, hn, g0, g6, g7, hlt, hc, a_slen, a_six, isStrV_lit, strV_lit, ← hN, six_int, hcl, Int.toNat_natCast, Int.natCast_nonneg, hwi, aundef, hb1, hb2, hb3, hb4, hb5, hb6, hb7, hb8, hb9]
                  refine ih _ _ ⟨rfl, take_all hcl hall (by simp [gB, hb1, hb2, hb3, hb4, hb5, hb6, hb7, hb8, hb9]), ?_⟩
                  simp only [core, zrA, zrS, zrM, zrL, zrE, reduceCtorEq, zrD, ziE, ziL, ziN, hn, g0, g6, g7]
                | false =>
                  try simp only [core, zrA, zrS, zrM, zrL, zrE, reduceCtorEq, zrD, ziE, ziL, ziN, hn, g0, g6, g7, hlt, hc, a_slen, a_six, isStrV_lit, strV_lit, ← hN, six_int, hcl, Int.toNat_natCast, Int.natCast_nonneg, hwi, aundef, hb1, hb2, hb3, hb4, hb5, hb6, hb7, hb8, hb9]
                  rw [mGood_bad hcl (by simp [gB, hb1, hb2, hb3, hb4, hb5, hb6, hb7, hb8, hb9])]
        | false =>
          try simp only [core, zrA, zrS, zrM, zrL, zrE, reduceCtorEq, zrD, ziE, ziL, ziN, hn, g0, g6, g7, hlt, hc, a_slen, a_six, isStrV_lit, strV_lit, ← hN, six_int, hcl, Int.toNat_natCast, Int.natCast_nonneg, hwi, aundef, hb1, hb2, hb3, hb4, hb5, hb6, hb7, hb8, hb9]
          cases b7 with
          | true =>
            try simp only [core, zrA, zrS, zrM, zrL, zrE, reduceCtorEq, zrD, ziE, ziL, ziN, hn, g0, g6, g7, hlt, hc, a_slen, a_six, isStrV_lit, strV_lit, ← hN, six_int, hcl, Int.toNat_natCast, Int.natCast_nonneg, hwi, aundef, hb1, hb2, hb3, hb4, hb5, hb6, hb7, hb8, hb9]
            refine ih _ _ ⟨rfl, take_all hcl hall (by simp [gB, hb1, hb2, hb3, hb4, hb5, hb6, hb7, hb8, hb9]), ?_⟩
            simp only [core, zrA, zrS, zrM, zrL, zrE, reduceCtorEq, zrD, ziE, ziL, ziN, hn, g0, g6, g7]
          | false =>
            try simp only [core, zrA, zrS, zrM, zrL, zrE, reduceCtorEq, zrD, ziE, ziL, ziN, hn, g0, g6, g7, hlt, hc, a_slen, a_six, isStrV_lit, strV_lit, ← hN, six_int, hcl, Int.toNat_natCast, Int.natCast_nonneg, hwi, aundef, hb1, hb2, hb3, hb4, hb5, hb6, hb7, hb8, hb9]
            cases b8 with
            | true =>
              try simp only [core, zrA, zrS, zrM, zrL, zrE, reduceCtorEq, zrD, ziE, ziL, ziN, hn, g0, g6, g7, hlt, hc, a_slen, a_six, isStrV_lit, strV_lit, ← hN, six_int, hcl, Int.toNat_natCast, Int.natCast_nonneg, hwi, aundef, hb1, hb2, hb3, hb4, hb5, hb6, hb7, hb8, hb9]
              refine ih _ _ ⟨rfl, take_all hcl hall (by simp [gB, hb1, hb2, hb3, hb4, hb5, hb6, hb7, hb8, hb9]), ?_⟩
              simp only [core, zrA, zrS, zrM, zrL, zrE, reduceCtorEq, zrD, ziE, ziL, ziN, hn, g0, g6, g7]
            | false =>
              try simp only [core, zrA, zrS, zrM, zrL, zrE, reduceCtorEq, zrD, ziE, ziL, ziN, hn, g0, g6, g7, hlt, hc, a_slen, a_six, isStrV_lit, strV_lit, ← hN, six_int, hcl, Int.toNat_natCast, Int.natCast_nonneg, hwi, aundef, hb1, hb2, hb3, hb4, hb5, hb6, hb7, hb8, hb9]
              cases b9 with
              | true =>
                try simp only [core, zrA, zrS, zrM, zrL, zrE, reduceCtorEq, zrD, ziE, ziL, ziN, hn, g0, g6, g7, hlt, hc, a_slen, a_six, isStrV_lit, strV_lit, ← hN, six_int, hcl, Int.toNat_natCast, Int.natCast_nonneg, hwi, aundef, hb1, hb2, hb3, hb4, hb5, hb6, hb7, hb8, hb9]
                refine ih _ _ ⟨rfl, take_all hcl hall (by simp [gB, hb1, hb2, hb3, hb4, hb5, hb6, hb7, hb8, hb9]), ?_⟩
                simp only [core, zrA, zrS, zrM, zrL, zrE, reduceCtorEq, zrD, ziE, ziL, ziN, hn, g0, g6, g7]
              | false =>
                try simp only [core, zrA, zrS, zrM, zrL, zrE, reduceCtorEq, zrD, ziE, ziL, ziN, hn, g0, g6, g7, hlt, hc, a_slen, a_six, isStrV_lit, strV_lit, ← hN, six_int, hcl, Int.toNat_natCast, Int.natCast_nonneg, hwi, aundef, hb1, hb2, hb3, hb4, hb5, hb6, hb7, hb8, hb9]
                rw [mGood_bad hcl (by simp [gB, hb1, hb2, hb3, hb4, hb5, hb6, hb7, hb8, hb9])]
  · rintro t h hc ⟨rfl, hall, hn, g0, g6, g7⟩
    have ha : l.all gB = true := by rw [hN, List.take_length] at hall; exact hall
    have he : mGood l = (decide (1 ≤ (n : Int)) && decide ((n : Int) ≤ 40)) := by unfold mGood; rw [ha, hN]; rfl
    have hne : ∀ (P : Program) (e : TypeId), pur P (binOp .neq e (Value.string ⟨l.toArray⟩) (Value.string ⟨#[]⟩)) = some (.ok (Value.bool (!(l == [])))) := fun P e => pur_sne (b := [])
    rw [he]
    cases n with
    | zero =>
      have h0 : l = [] := List.length_eq_zero_iff.1 hN.symm
      have hq : (!(l == ([] : List UInt8))) = false := by rw [h0]; rfl
      simp only [core, zrA, zrS, zrM, zrL, zrE, reduceCtorEq, zrD, ziE, ziL, ziN, hn, g0, g6, g7, hc, a_slen, isStrV_lit, strV_lit, ← hN, hne, hq, aundef]
      try simp
    | succ n =>
      have h0 : l ≠ [] := fun h => by rw [h] at hN; cases hN
      have hq : (!(l == ([] : List UInt8))) = true := by cases l with | nil => exact absurd rfl h0 | cons a r => rfl
      simp only [core, zrA, zrS, zrM, zrL, zrE, reduceCtorEq, zrD, ziE, ziL, ziN, hn, g0, g6, g7, hc, a_slen, isStrV_lit, strV_lit, ← hN, hne, hq, aundef]
      try simp
      try omega
  · refine ⟨rfl, by simp, ?_⟩
    simp only [core, zrA, zrS, zrM, zrL, zrE, reduceCtorEq, zrD, ziE, ziL, ziN]
    (repeat' apply And.intro) <;> first | rfl | trivial
end Go.Proofs.YtjicijhakcmifaaGreatDoor.Ex
end

section

set_option linter.unusedSimpArgs false
set_option linter.unusedVariables false
set_option maxRecDepth 10000
set_option maxHeartbeats 4000000
namespace Go.Proofs.YtjicijhakcmifaaGreatDoor.Ex
open Go
def RSet : Rep SetD where
  z := 35
  is _ _ c x := c = setC x
  len := fun h => by subst h; rfl
  one := fun h v hv => by
    subst h
    unfold setC at hv
    simp only [List.mem_cons, List.not_mem_nil, or_false] at hv
    rcases hv with rfl | rfl | rfl | rfl | rfl | rfl | rfl | rfl | rfl | rfl | rfl | rfl | rfl | rfl | rfl | rfl | rfl | rfl | rfl | rfl | rfl | rfl | rfl | rfl | rfl | rfl | rfl | rfl | rfl | rfl | rfl | rfl | rfl | rfl | rfl <;> rfl
  lift := fun h _ => h
theorem RSet_z : RSet.z = 35 := rfl
theorem RSet_is {F : Nat → Prop} {h : AH} {c : List AV} {x : SetD} : RSet.is F h c x ↔ c = setC x := Iff.rfl
structure RootD where
  live : List SetD
  ops : List (List UInt8)
theorem pur_sge {P : Program} {e : TypeId} {a b : List UInt8} : pur P (binOp .geq e (Value.string ⟨a.toArray⟩) (Value.string ⟨b.toArray⟩)) = some (.ok (Value.bool (!ltS a b))) := by
  show pur P (pure (Value.bool (!Op.bytesLess (⟨a.toArray⟩ : ByteArray).toList (⟨b.toArray⟩ : ByteArray).toList))) = _
  rw [toList_eq, toList_eq]
  rfl
/-- The open puts are right, at one place. -/
def okO (l : List (List UInt8)) (i : Nat) : Bool := goodIdF (l.getD i []) && (i == 0 || ltS (l.getD (i - 1) []) (l.getD i []))
/-- The sets are right, at one place. -/
def okS (o : List (List UInt8)) (l : List SetD) (i : Nat) : Bool :=
  goodIdF (l.getD i set0).id && decide (0 ≤ (l.getD i set0).size) && decide ((l.getD i set0).size ≤ 2147483647) && (i == 0 || ltS (l.getD (i - 1) set0).name (l.getD i set0).name) && !(o.contains (l.getD i set0).id || (l.take i).any fun s => s.id == (l.getD i set0).id)
/-- What the check of a root says. -/
def chkF (r : RootD) : Int :=
  if r.ops.length ≤ 16 ∧ r.live.length ≤ 16 ∧ (List.range r.ops.length).all (okO r.ops) = true ∧ (List.range r.live.length).all (okS r.ops r.live) = true then (if r.live.all (fun s => mGood s.name) = true then 0 else 36) else 22
theorem chk_long {r : RootD} (h : 16 < r.ops.length ∨ 16 < r.live.length) : chkF r = 22 := by
  unfold chkF
  rw [if_neg (by rintro ⟨h1, h2, -⟩; omega)]
theorem chk_o {r : RootD} {i : Nat} (hi : i < r.ops.length) (h : okO r.ops i = false) : chkF r = 22 := by
  unfold chkF
  rw [if_neg]
  rintro ⟨-, -, h3, -⟩
  have := List.all_eq_true.1 h3 i (List.mem_range.2 hi)
  rw [h] at this
  cases this
theorem chk_s {r : RootD} {i : Nat} (hi : i < r.live.length) (h : okS r.ops r.live i = false) : chkF r = 22 := by
  unfold chkF
  rw [if_neg]
  rintro ⟨-, -, -, h4⟩
  have := List.all_eq_true.1 h4 i (List.mem_range.2 hi)
  rw [h] at this
  cases this
theorem range_snoc {f : Nat → Bool} {i : Nat} (h : (List.range i).all f = true) (hf : f i = true) : (List.range (i + 1)).all f = true := by
  rw [List.range_succ, List.all_append, h]
  simp [hf]
end Go.Proofs.YtjicijhakcmifaaGreatDoor.Ex
end

section

set_option linter.unusedSimpArgs false
set_option linter.unusedVariables false
set_option maxRecDepth 10000
set_option maxHeartbeats 4000000
namespace Go.Proofs.YtjicijhakcmifaaGreatDoor.Ex
open Go
theorem CheckRoot_x {F : Nat → Prop} {H : AH} {vl vo : AV} {r : RootD} (hl : IsSl RSet F H vl r.live) (ho : IsSl RTx F H vo r.ops) (so : ∀ x ∈ r.ops, x.length ≤ 1100000) (ss : ∀ s ∈ r.live, s.id.length ≤ 1100000 ∧ s.name.length ≤ 1100000) :
    WC Tryz.prog (tabOf Tryz.prog NT0) S0 11 [.agg [vl, vo]] H fun v h' => Ext H.n H h' ∧ v = .lit (.int .i64 (chkF r)) := by
  refine WC_fn Tryz.func11 rfl rfl ?_
  have l1 := hl.one
  have l2 := hl.isSl
  have l3 := hl.lenD
  have o1 := ho.one
  have o2 := ho.isSl
  have o3 := ho.lenD
  obtain ⟨n, hN⟩ : ∃ n, n = r.ops.length := ⟨_, rfl⟩
  obtain ⟨m, hM⟩ : ∃ m, m = r.live.length := ⟨_, rfl⟩
  rw [← hN] at o3
  rw [← hM] at l3
  obtain ⟨hp, hhp⟩ : ∃ hp, hp = H.push (.cells [vl, vo] 27) := ⟨_, rfl⟩
  have EP : Ext H.n H hp := hhp ▸ (Ext.refl _ _).push _ (Nat.le_refl _)
  have P0 : hp.at H.n = some (.cells [vl, vo] 27) := hhp ▸ at_push_n _ _
  have LP := ld_at (T := tabOf Tryz.prog NT0) P0
  have lP := at_lt P0
  cases f1 : decide ((16 : Int) < (n : Int)) with
  | true =>
    have hc := chk_long (r := r) (.inl (by have := of_decide_eq_true f1; omega))
    simp only [core, zrA, zrS, zrM, zrL, zrE, reduceCtorEq, zrD, ziE, ziL, ziN, Tryz.ntmps11, l1, l2, l3, o1, o2, o3, ← hhp, LP, lP, f1, aundef, hc]
    first | exact EP | exact ⟨EP, rfl⟩
  | false =>
  cases f2 : decide ((16 : Int) < (m : Int)) with
  | true =>
    have hc := chk_long (r := r) (.inr (by have := of_decide_eq_true f2; omega))
    simp only [core, zrA, zrS, zrM, zrL, zrE, reduceCtorEq, zrD, ziE, ziL, ziN, Tryz.ntmps11, l1, l2, l3, o1, o2, o3, ← hhp, LP, lP, f1, f2, aundef, hc]
    first | exact EP | exact ⟨EP, rfl⟩
  | false =>
  have hn16 : n ≤ 16 := by have := of_decide_eq_false f1; omega
  have hm16 : m ≤ 16 := by have := of_decide_eq_false f2; omega
  obtain ⟨hq, hhq⟩ : ∃ hq, hq = hp.push (.map [] 0) := ⟨_, rfl⟩
  have EQ : Ext hp.n hp hq := hhq ▸ (Ext.refl _ _).push _ (Nat.le_refl _)
  have Q0 : hq.at hp.n = some (.map [] 0) := hhq ▸ at_push_n _ _
  have P1 := (EQ.2 _ lP).trans P0
  have LP1 := ld_at (T := tabOf Tryz.prog NT0) P1
  have lP1 := at_lt P1
  have E0 := EP.trans (EQ.mono EP.1)
  have nP : hp.n = H.n + 1 := by rw [hhp, n_push]
  have hu : und (tabOf Tryz.prog NT0) 28 = some (.map 9 3) := by kernel_rfl
  have hi : und (tabOf Tryz.prog NT0) 9 = some .string := by kernel_rfl
  have hz : zeroT (tabOf Tryz.prog NT0) 3 = some (.lit (.int .i64 0)) := by kernel_rfl
  simp only [core, zrA, zrS, zrM, zrL, zrE, reduceCtorEq, zrD, ziE, ziL, ziN, Tryz.ntmps11, l1, l2, l3, o1, o2, o3, ← hhp, LP, lP, f1, f2, aundef, a_mkmT, ← hhq, LP1, lP1]
  refine WB_for n (fun i t h => Ext H.n H h ∧ hp.n < h.n ∧ h.at H.n = some (.cells [vl, vo] 27) ∧ (∃ es c ks, h.at hp.n = some (.map es c) ∧ Cnt es ks (i + 1) ∧ ∀ x, x ∈ ks ↔ x ∈ r.ops.take i) ∧ (List.range i).all (okO r.ops) = true ∧ t.n = 112 ∧ t.get 1 = .ptr H.n 0 ∧ t.get 3 = .mp hp.n ∧ t.get 22 = vo ∧ t.get 23 = .lit (.int .i64 n) ∧ t.get 24 = .lit (.int .i64 i)) ?_ ?_ _ _ ?_
  · rintro i t h hlt hc ⟨E, hpn, R, ⟨es, c, ks, hmap, hcnt, hks⟩, hall, hn, g1, g3, g22, g23, g24⟩ ih
    have hwi := wrap_succ (n := n) hlt (by omega)
    obtain ⟨x, hx⟩ : ∃ x, r.ops[i]? = some x := ⟨_, List.getElem?_eq_getElem (by omega)⟩
    have hxg : r.ops.getD i [] = x := by rw [List.getD_eq_getElem?_getD, hx]; rfl
    have hxm := List.mem_of_getElem? hx
    have LR := ld_at (T := tabOf Tryz.prog NT0) R
    have lR := at_lt R
    have ld : ∀ {h : AH} {i : Nat} {x : List UInt8}, Ext H.n H h → r.ops[i]? = some x → loadA (tabOf Tryz.prog NT0) h 9 (slB vo) (slO vo + i) = some (.lit (.string ⟨x.toArray⟩)) := fun {h i x} e hx => by
      obtain ⟨cc, hc1, hld, hld0⟩ := ho.atE (T := tabOf Tryz.prog NT0) e RTx_z hx
      obtain rfl := RTx_is.1 hc1
      have ld := hld0 9 1 (by kernel_rfl) (by decide) (by decide)
      rw [Nat.mul_one] at ld
      rw [ld]
      rfl
    have l0 := ld E hx
    simp only [core, zrA, zrS, zrM, zrL, zrE, reduceCtorEq, zrD, ziE, ziL, ziN, hn, g1, g3, g22, g23, g24, hlt, hc, o1, o2, o3, l0, LR, lR]
    refine (goodId_x (so x hxm)).mono ?_
    rintro _ h2 ⟨E2, rfl⟩
    have R2 := (E2.2 _ lR).trans R
    have LR2 := ld_at (T := tabOf Tryz.prog NT0) R2
    have lR2 := at_lt R2
    have E02 := E.trans (E2.mono E.1)
    cases hg : goodIdF x with
    | false =>
      have hbad := chk_o (r := r) (i := i) (by omega) (by unfold okO; rw [hxg, hg]; rfl)
      simp only [core, zrA, zrS, zrM, zrL, zrE, reduceCtorEq, zrD, ziE, ziL, ziN, hn, g1, g3, g22, g23, g24, aundef, hbad]
      first | exact E02 | exact ⟨E02, rfl⟩
    | true =>
    obtain ⟨k, hk0, hk1, hk2, hlook, es', c', ks', hupd, hcnt', hks', hl2⟩ := inc_x (h := h2) x hu hi hz ((E2.2 _ hpn).trans hmap) hcnt
    have w1 : IntKind.i64.wrap (k + 1) = k + 1 := wrap_in (by omega) (by omega)
    have lh2 : hp.n < h2.n := Nat.lt_of_lt_of_le hpn E2.1
    have htk : r.ops.take (i + 1) = r.ops.take i ++ [x] := by
      obtain ⟨h1, h2⟩ := List.getElem?_eq_some_iff.1 hx
      rw [List.take_succ_eq_append_getElem h1, h2]
    by_cases hi0 : i = 0
    · have h0 : ((0 : Int) < (i : Int)) = False := by rw [hi0]; simp
      have hok : okO r.ops i = true := by unfold okO; rw [hxg, hg, hi0]; rfl
      simp only [core, zrA, zrS, zrM, zrL, zrE, reduceCtorEq, zrD, ziE, ziL, ziN, hn, g1, g3, g22, g23, g24, aundef, h0, a_lookT, aLookup, a_mupdT, aUpdate, hlook, hupd, w1, hwi]
      refine ih _ _ ⟨E02.put _ (by omega), by rw [n_put]; exact lh2, (at_put_ne _ (by omega)).trans R2, ⟨es', c', ks', at_put_same _ lh2, hcnt', fun z => ?_⟩, range_snoc hall hok, ?_⟩
      · rw [hks', hks, htk, List.mem_append, List.mem_singleton]
      · simp only [core, zrA, zrS, zrM, zrL, zrE, reduceCtorEq, zrD, ziE, ziL, ziN, hn, g1, g3, g22, g23, g24]
    · have h0 : ((0 : Int) < (i : Int)) = True := by simp; omega
      obtain ⟨y, hy⟩ : ∃ y, r.ops[i - 1]? = some y := ⟨_, List.getElem?_eq_getElem (by omega)⟩
      have hyg : r.ops.getD (i - 1) [] = y := by rw [List.getD_eq_getElem?_getD, hy]; rfl
      have lpy := ld E02 hy
      have w2 : IntKind.i64.wrap ((i : Int) - 1) = ((i - 1 : Nat) : Int) := (wrap_in (by omega) (by omega)).trans (by omega)
      have hin : i - 1 < n := by omega
      cases hlt' : ltS y x with
      | false =>
        have hbad := chk_o (r := r) (i := i) (by omega) (by unfold okO; rw [hxg, hyg, hg, hlt', show (i == 0) = false by simpa using hi0]; rfl)
        simp only [core, zrA, zrS, zrM, zrL, zrE, reduceCtorEq, zrD, ziE, ziL, ziN, hn, g1, g3, g22, g23, g24, aundef, h0, LR2, lR2, o1, o2, o3, w2, hin, lpy, pur_sge, hlt', hbad]
        first | exact E02 | exact ⟨E02, rfl⟩
      | true =>
        have hok : okO r.ops i = true := by unfold okO; rw [hxg, hyg, hg, hlt']; simp
        simp only [core, zrA, zrS, zrM, zrL, zrE, reduceCtorEq, zrD, ziE, ziL, ziN, hn, g1, g3, g22, g23, g24, aundef, h0, LR2, lR2, o1, o2, o3, w2, hin, lpy, pur_sge, hlt', a_lookT, aLookup, a_mupdT, aUpdate, hlook, hupd, w1, hwi]
        refine ih _ _ ⟨E02.put _ (by omega), by rw [n_put]; exact lh2, (at_put_ne _ (by omega)).trans R2, ⟨es', c', ks', at_put_same _ lh2, hcnt', fun z => ?_⟩, range_snoc hall hok, ?_⟩
        · rw [hks', hks, htk, List.mem_append, List.mem_singleton]
        · simp only [core, zrA, zrS, zrM, zrL, zrE, reduceCtorEq, zrD, ziE, ziL, ziN, hn, g1, g3, g22, g23, g24]
  · rintro t h hc ⟨E, hpn, R, ⟨es, c, ks, hmap, hcnt, hks⟩, hall, hn, g1, g3, g22, g23, g24⟩
    have LR := ld_at (T := tabOf Tryz.prog NT0) R
    have lR := at_lt R
    rw [hN, List.take_length] at hks
    have hallO : (List.range r.ops.length).all (okO r.ops) = true := by rw [← hN]; exact hall
    simp only [core, zrA, zrS, zrM, zrL, zrE, reduceCtorEq, zrD, ziE, ziL, ziN, hn, g1, g3, g22, g23, g24, hc, l1, l2, l3, LR, lR]
    refine WB_for m (fun i t h => Ext H.n H h ∧ hp.n < h.n ∧ h.at H.n = some (.cells [vl, vo] 27) ∧ (∃ es c ks, h.at hp.n = some (.map es c) ∧ Cnt es ks (n + i + 1) ∧ ∀ x, x ∈ ks ↔ (x ∈ r.ops ∨ ∃ s ∈ r.live.take i, s.id = x)) ∧ (List.range i).all (okS r.ops r.live) = true ∧ t.n = 112 ∧ t.get 1 = .ptr H.n 0 ∧ t.get 3 = .mp hp.n ∧ t.get 52 = vl ∧ t.get 53 = .lit (.int .i64 m) ∧ t.get 54 = .lit (.int .i64 i)) ?_ ?_ _ _ ?_
    · rintro i t h hlt hc2 ⟨E, hpn, R, ⟨es, c, ks, hmap, hcnt, hks⟩, hall2, hn, g1, g3, g52, g53, g54⟩ ih
      have hwi := wrap_succ (n := m) hlt (by omega)
      obtain ⟨x, hx⟩ : ∃ x, r.live[i]? = some x := ⟨_, List.getElem?_eq_getElem (by omega)⟩
      have hxg : r.live.getD i set0 = x := by rw [List.getD_eq_getElem?_getD, hx]; rfl
      have hxm := List.mem_of_getElem? hx
      obtain ⟨cc, hc1, hld, hld0⟩ := hl.atE (T := tabOf Tryz.prog NT0) E RSet_z hx
      obtain rfl := RSet_is.1 hc1
      obtain ⟨hA, hhA⟩ : ∃ hA, hA = h.push (.cells (setC x) 39) := ⟨_, rfl⟩
      have eA : Ext h.n h hA := hhA ▸ (Ext.refl _ _).push _ (Nat.le_refl _)
      have XA : hA.at h.n = some (.cells (setC x) 39) := hhA ▸ at_push_n _ _
      have EA := E.trans (eA.mono E.1)
      have RA := (eA.2 _ (at_lt R)).trans R
      unfold setC at hhA XA hld hld0
      have LXA := ld_at (T := tabOf Tryz.prog NT0) XA
      have lXA := at_lt XA
      have LRA := ld_at (T := tabOf Tryz.prog NT0) RA
      have lRA := at_lt RA
      simp only [core, zrA, zrS, zrM, zrL, zrE, reduceCtorEq, zrD, ziE, ziL, ziN, hn, g1, g3, g52, g53, g54, hlt, hc2, l1, l2, l3, hld, hld0, ← hhA]
      rw [WB_regionD [0, 1, 2, 3, 4, 5, 6, 7, 8, 9, 10, 11, 12, 13, 14, 15, 16, 17, 18, 19, 20, 21, 22, 23, 24, 25, 26, 27, 28, 29] 4226356243181170489693065783724060733400078045070733293938348402583151474092150771819983596239690792338658986001380313359418672181109758510467220460734765490775396558933891719138818786494048386770850064511632691095530780183065870131829621249236987472055988812629445443584 (by kernel_rfl)]
      repeat ((with_reducible refine WDM_cons ?_; simp only [dw1]; try simp only [dw2, zrA, zrM, zrR, zrO, zrE]); simp only [core, zrA, zrS, zrM, zrL, zrE, reduceCtorEq, zrD, ziE, ziL, ziN, cored, hn, g1, g3, g52, g53, g54, LXA, lXA, LRA, lRA])
      refine (goodId_x (ss x hxm).1).mono ?_
      rintro _ h2 ⟨E2, rfl⟩
      have EB := EA.trans (E2.mono EA.1)
      have XB := (E2.2 _ lXA).trans XA
      have RB := (E2.2 _ lRA).trans RA
      have LXB := ld_at (T := tabOf Tryz.prog NT0) XB
      have lXB := at_lt XB
      have LRB := ld_at (T := tabOf Tryz.prog NT0) RB
      have lRB := at_lt RB
      have lA := eA.1
      have lB := E2.1
      have hmB : h2.at hp.n = some (.map es c) := (E2.2 _ (by omega)).trans ((eA.2 _ hpn).trans hmap)
      have hbad : okS r.ops r.live i = false → chkF r = 22 := fun h => chk_s (r := r) (i := i) (by omega) h
      cases q1 : goodIdF x.id with
      | false =>
        have hb := hbad (by unfold okS; rw [hxg, q1]; rfl)
        repeat (first | ((with_reducible refine WDM_cons ?_; simp only [dw1]; try simp only [dw2, zrA, zrM, zrR, zrO, zrE]); simp only [core, zrA, zrS, zrM, zrL, zrE, reduceCtorEq, zrD, ziE, ziL, ziN, cored, hn, g1, g3, g52, g53, g54, aundef, q1, hb]) | simp only [core, zrA, zrS, zrM, zrL, zrE, reduceCtorEq, zrD, ziE, ziL, ziN, cored, hn, g1, g3, g52, g53, g54, aundef, q1, hb])
        first | exact EB | exact ⟨EB, rfl⟩
      | true =>
      cases q2 : decide (x.size < 0) with
      | true =>
        have hb := hbad (by unfold okS; have := of_decide_eq_true q2; rw [hxg, decide_eq_false (p := 0 ≤ x.size) (by omega)]; simp)
        repeat (first | ((with_reducible refine WDM_cons ?_; simp only [dw1]; try simp only [dw2, zrA, zrM, zrR, zrO, zrE]); simp only [core, zrA, zrS, zrM, zrL, zrE, reduceCtorEq, zrD, ziE, ziL, ziN, cored, hn, g1, g3, g52, g53, g54, LXB, lXB, aundef, q1, q2, hb]) | simp only [core, zrA, zrS, zrM, zrL, zrE, reduceCtorEq, zrD, ziE, ziL, ziN, cored, hn, g1, g3, g52, g53, g54, LXB, lXB, aundef, q1, q2, hb])
        first | exact EB | exact ⟨EB, rfl⟩
      | false =>
      cases q3 : decide (2147483647 < x.size) with
      | true =>
        have hb := hbad (by unfold okS; have := of_decide_eq_true q3; rw [hxg, decide_eq_false (p := x.size ≤ 2147483647) (by omega)]; simp)
        repeat (first | ((with_reducible refine WDM_cons ?_; simp only [dw1]; try simp only [dw2, zrA, zrM, zrR, zrO, zrE]); simp only [core, zrA, zrS, zrM, zrL, zrE, reduceCtorEq, zrD, ziE, ziL, ziN, cored, hn, g1, g3, g52, g53, g54, LXB, lXB, aundef, q1, q2, q3, hb]) | simp only [core, zrA, zrS, zrM, zrL, zrE, reduceCtorEq, zrD, ziE, ziL, ziN, cored, hn, g1, g3, g52, g53, g54, LXB, lXB, aundef, q1, q2, q3, hb])
        first | exact EB | exact ⟨EB, rfl⟩
      | false =>
      have z2 := of_decide_eq_false q2
      have z3 := of_decide_eq_false q3
      obtain ⟨k, hk0, hk1, hk2, hlook, es', c', ks', hupd, hcnt', hks', hl2⟩ := inc_x (h := h2) x.id hu hi hz hmB hcnt
      have w1 : IntKind.i64.wrap (k + 1) = k + 1 := wrap_in (by omega) (by omega)
      have hl3 := hl2 _ (at_put_same (.map es' c') (by omega : hp.n < h2.n))
      have XC : (h2.put hp.n (.map es' c')).at h.n = _ := (at_put_ne _ (by omega)).trans XB
      have LXC := ld_at (T := tabOf Tryz.prog NT0) XC
      have lXC := at_lt XC
      have EC : Ext H.n H (h2.put hp.n (.map es' c')) := EB.put _ (by omega)
      have hdup : (r.ops.contains x.id || (r.live.take i).any fun s => s.id == x.id) = !decide (k = 0) := by
        have hin : x.id ∈ ks ↔ ((r.ops.contains x.id || (r.live.take i).any fun s => s.id == x.id) = true) := by
          rw [hks]
          simp only [Bool.or_eq_true, List.contains_iff_mem, List.any_eq_true, beq_iff_eq]
        by_cases hk : k = 0
        · have hno := hk2.1 hk
          rw [hk]
          exact Bool.eq_false_iff.2 fun hh => hno (hin.2 hh)
        · have hyes : x.id ∈ ks := Classical.byContradiction fun hn => hk (hk2.2 hn)
          rw [decide_eq_false hk]
          exact hin.1 hyes
      have htk : r.live.take (i + 1) = r.live.take i ++ [x] := by
        obtain ⟨h1, h2⟩ := List.getElem?_eq_some_iff.1 hx
        rw [List.take_succ_eq_append_getElem h1, h2]
      have hks2 : ∀ z, z ∈ ks' ↔ (z ∈ r.ops ∨ ∃ s ∈ r.live.take (i + 1), s.id = z) := fun z => by
        rw [hks', hks, htk]
        constructor
        · rintro ((h | ⟨s, h1, h2⟩) | rfl)
          · exact .inl h
          · exact .inr ⟨s, List.mem_append_left _ h1, h2⟩
          · exact .inr ⟨x, by simp, rfl⟩
        · rintro (h | ⟨s, h1, h2⟩)
          · exact .inl (.inl h)
          · rcases List.mem_append.1 h1 with h1 | h1
            · exact .inl (.inr ⟨s, h1, h2⟩)
            · obtain rfl := List.mem_singleton.1 h1
              exact .inr h2.symm
      have fin : ∀ q : Bool, okS r.ops r.live i = (q && decide (k = 0)) → q = true → (k = 0 → okS r.ops r.live i = true) ∧ (¬ k = 0 → chkF r = 22) := fun q h1 h2 => ⟨fun h => by rw [h1, h2, h]; rfl, fun h => hbad (by rw [h1, decide_eq_false h]; simp)⟩
      by_cases hi0 : i = 0
      · have h0 : ((0 : Int) < (i : Int)) = False := by rw [hi0]; simp
        obtain ⟨fi1, fi2⟩ := fin true (by unfold okS; rw [hxg, q1, decide_eq_true (p := 0 ≤ x.size) (by omega), decide_eq_true (p := x.size ≤ 2147483647) (by omega), hdup, hi0]; cases decide (k = 0) <;> rfl) rfl
        cases q4 : decide (k = 0) with
        | false =>
          have hb := fi2 (of_decide_eq_false q4)
          have q5 : ((1 : Int) < k + 1) = True := by have := of_decide_eq_false q4; simp; omega
          repeat (first | ((with_reducible refine WDM_cons ?_; simp only [dw1]; try simp only [dw2, zrA, zrM, zrR, zrO, zrE]); simp only [core, zrA, zrS, zrM, zrL, zrE, reduceCtorEq, zrD, ziE, ziL, ziN, cored, hn, g1, g3, g52, g53, g54, LXB, lXB, LXC, lXC, aundef, q1, q2, q3, h0, hb, a_lookT, aLookup, a_mupdT, aUpdate, hlook, hupd, w1, hl3, q5]) | simp only [core, zrA, zrS, zrM, zrL, zrE, reduceCtorEq, zrD, ziE, ziL, ziN, cored, hn, g1, g3, g52, g53, g54, LXB, lXB, LXC, lXC, aundef, q1, q2, q3, h0, hb, a_lookT, aLookup, a_mupdT, aUpdate, hlook, hupd, w1, hl3, q5])
          first | exact EC | exact ⟨EC, rfl⟩
        | true =>
          have hok := fi1 (of_decide_eq_true q4)
          have q5 : ((1 : Int) < k + 1) = False := by have := of_decide_eq_true q4; simp; omega
          repeat (first | ((with_reducible refine WDM_cons ?_; simp only [dw1]; try simp only [dw2, zrA, zrM, zrR, zrO, zrE]); simp only [core, zrA, zrS, zrM, zrL, zrE, reduceCtorEq, zrD, ziE, ziL, ziN, cored, hn, g1, g3, g52, g53, g54, LXB, lXB, LXC, lXC, aundef, q1, q2, q3, h0, a_lookT, aLookup, a_mupdT, aUpdate, hlook, hupd, w1, hl3, q5, hwi]) | simp only [core, zrA, zrS, zrM, zrL, zrE, reduceCtorEq, zrD, ziE, ziL, ziN, cored, hn, g1, g3, g52, g53, g54, LXB, lXB, LXC, lXC, aundef, q1, q2, q3, h0, a_lookT, aLookup, a_mupdT, aUpdate, hlook, hupd, w1, hl3, q5, hwi])
          refine ih _ _ ⟨EC, by rw [n_put]; omega, (at_put_ne _ (by omega)).trans RB, ⟨es', c', ks', at_put_same _ (by omega), hcnt', hks2⟩, range_snoc hall2 hok, ?_⟩
          simp only [core, zrA, zrS, zrM, zrL, zrE, reduceCtorEq, zrD, ziE, ziL, ziN, hn, g1, g3, g52, g53, g54]
      · have h0 : ((0 : Int) < (i : Int)) = True := by simp; omega
        obtain ⟨y, hy⟩ : ∃ y, r.live[i - 1]? = some y := ⟨_, List.getElem?_eq_getElem (by omega)⟩
        have hyg : r.live.getD (i - 1) set0 = y := by rw [List.getD_eq_getElem?_getD, hy]; rfl
        obtain ⟨cy, hc1, hldy, -⟩ := hl.atE (T := tabOf Tryz.prog NT0) EB RSet_z hy
        obtain rfl := RSet_is.1 hc1
        have lpy : loadA (tabOf Tryz.prog NT0) h2 9 (slB vl) (slO vl + (i - 1) * 35) = some (.lit (.string ⟨y.name.toArray⟩)) := (hldy 9 1 0 (by kernel_rfl) (by decide) (by decide)).trans rfl
        have w2 : IntKind.i64.wrap ((i : Int) - 1) = ((i - 1 : Nat) : Int) := (wrap_in (by omega) (by omega)).trans (by omega)
        have hin : i - 1 < m := by omega
        have hi0b : (i == 0) = false := by simpa using hi0
        cases hlt' : ltS y.name x.name with
        | false =>
          have hb := hbad (by unfold okS; rw [hxg, hyg, hlt', hi0b]; simp)
          repeat (first | ((with_reducible refine WDM_cons ?_; simp only [dw1]; try simp only [dw2, zrA, zrM, zrR, zrO, zrE]); simp only [core, zrA, zrS, zrM, zrL, zrE, reduceCtorEq, zrD, ziE, ziL, ziN, cored, hn, g1, g3, g52, g53, g54, LXB, lXB, LRB, lRB, l1, l2, l3, aundef, q1, q2, q3, h0, hb, w2, hin, lpy, pur_sge, hlt']) | simp only [core, zrA, zrS, zrM, zrL, zrE, reduceCtorEq, zrD, ziE, ziL, ziN, cored, hn, g1, g3, g52, g53, g54, LXB, lXB, LRB, lRB, l1, l2, l3, aundef, q1, q2, q3, h0, hb, w2, hin, lpy, pur_sge, hlt'])
          first | exact EB | exact ⟨EB, rfl⟩
        | true =>
        obtain ⟨fi1, fi2⟩ := fin true (by unfold okS; rw [hxg, hyg, q1, decide_eq_true (p := 0 ≤ x.size) (by omega), decide_eq_true (p := x.size ≤ 2147483647) (by omega), hdup, hlt']; cases decide (k = 0) <;> simp) rfl
        cases q4 : decide (k = 0) with
        | false =>
          have hb := fi2 (of_decide_eq_false q4)
          have q5 : ((1 : Int) < k + 1) = True := by have := of_decide_eq_false q4; simp; omega
          repeat (first | ((with_reducible refine WDM_cons ?_; simp only [dw1]; try simp only [dw2, zrA, zrM, zrR, zrO, zrE]); simp only [core, zrA, zrS, zrM, zrL, zrE, reduceCtorEq, zrD, ziE, ziL, ziN, cored, hn, g1, g3, g52, g53, g54, LXB, lXB, LRB, lRB, LXC, lXC, l1, l2, l3, aundef, q1, q2, q3, h0, hb, w2, hin, lpy, pur_sge, hlt', a_lookT, aLookup, a_mupdT, aUpdate, hlook, hupd, w1, hl3, q5]) | simp only [core, zrA, zrS, zrM, zrL, zrE, reduceCtorEq, zrD, ziE, ziL, ziN, cored, hn, g1, g3, g52, g53, g54, LXB, lXB, LRB, lRB, LXC, lXC, l1, l2, l3, aundef, q1, q2, q3, h0, hb, w2, hin, lpy, pur_sge, hlt', a_lookT, aLookup, a_mupdT, aUpdate, hlook, hupd, w1, hl3, q5])
          first | exact EC | exact ⟨EC, rfl⟩
        | true =>
          have hok := fi1 (of_decide_eq_true q4)
          have q5 : ((1 : Int) < k + 1) = False := by have := of_decide_eq_true q4; simp; omega
          repeat (first | ((with_reducible refine WDM_cons ?_; simp only [dw1]; try simp only [dw2, zrA, zrM, zrR, zrO, zrE]); simp only [core, zrA, zrS, zrM, zrL, zrE, reduceCtorEq, zrD, ziE, ziL, ziN, cored, hn, g1, g3, g52, g53, g54, LXB, lXB, LRB, lRB, LXC, lXC, l1, l2, l3, aundef, q1, q2, q3, h0, w2, hin, lpy, pur_sge, hlt', a_lookT, aLookup, a_mupdT, aUpdate, hlook, hupd, w1, hl3, q5, hwi]) | simp only [core, zrA, zrS, zrM, zrL, zrE, reduceCtorEq, zrD, ziE, ziL, ziN, cored, hn, g1, g3, g52, g53, g54, LXB, lXB, LRB, lRB, LXC, lXC, l1, l2, l3, aundef, q1, q2, q3, h0, w2, hin, lpy, pur_sge, hlt', a_lookT, aLookup, a_mupdT, aUpdate, hlook, hupd, w1, hl3, q5, hwi])
          refine ih _ _ ⟨EC, by rw [n_put]; omega, (at_put_ne _ (by omega)).trans RB, ⟨es', c', ks', at_put_same _ (by omega), hcnt', hks2⟩, range_snoc hall2 hok, ?_⟩
          simp only [core, zrA, zrS, zrM, zrL, zrE, reduceCtorEq, zrD, ziE, ziL, ziN, hn, g1, g3, g52, g53, g54]
    · rintro t h hc2 ⟨E, hpn, R, -, hall2, hn, g1, g3, g52, g53, g54⟩
      have LR := ld_at (T := tabOf Tryz.prog NT0) R
      have lR := at_lt R
      have hallS : (List.range r.live.length).all (okS r.ops r.live) = true := by rw [← hM]; exact hall2
      have hchk : chkF r = if r.live.all (fun s => mGood s.name) = true then 0 else 36 := by
        unfold chkF
        rw [if_pos ⟨by omega, by omega, hallO, hallS⟩]
      simp only [core, zrA, zrS, zrM, zrL, zrE, reduceCtorEq, zrD, ziE, ziL, ziN, hn, g1, g3, g52, g53, g54, hc2, l1, l2, l3, LR, lR]
      refine WB_for m (fun i t h => Ext H.n H h ∧ h.at H.n = some (.cells [vl, vo] 27) ∧ (∀ s ∈ r.live.take i, mGood s.name = true) ∧ t.n = 112 ∧ t.get 1 = .ptr H.n 0 ∧ t.get 101 = vl ∧ t.get 102 = .lit (.int .i64 m) ∧ t.get 103 = .lit (.int .i64 i)) ?_ ?_ _ _ ?_
      · rintro i t h hlt hc3 ⟨E, R, hgood, hn, g1, g101, g102, g103⟩ ih
        have hwi := wrap_succ (n := m) hlt (by omega)
        obtain ⟨x, hx⟩ : ∃ x, r.live[i]? = some x := ⟨_, List.getElem?_eq_getElem (by omega)⟩
        have hxm := List.mem_of_getElem? hx
        obtain ⟨cc, hc1, hld, hld0⟩ := hl.atE (T := tabOf Tryz.prog NT0) E RSet_z hx
        obtain rfl := RSet_is.1 hc1
        obtain ⟨hA, hhA⟩ : ∃ hA, hA = h.push (.cells (setC x) 39) := ⟨_, rfl⟩
        have eA : Ext h.n h hA := hhA ▸ (Ext.refl _ _).push _ (Nat.le_refl _)
        have XA : hA.at h.n = some (.cells (setC x) 39) := hhA ▸ at_push_n _ _
        have EA := E.trans (eA.mono E.1)
        have RA := (eA.2 _ (at_lt R)).trans R
        unfold setC at hhA XA hld hld0
        have LXA := ld_at (T := tabOf Tryz.prog NT0) XA
        have lXA := at_lt XA
        simp only [core, zrA, zrS, zrM, zrL, zrE, reduceCtorEq, zrD, ziE, ziL, ziN, hn, g1, g101, g102, g103, hlt, hc3, l1, l2, l3, hld, hld0, ← hhA, LXA, lXA]
        refine (mgood_x (Nat.le_trans (ss x hxm).2 (by omega))).mono ?_
        rintro _ h2 ⟨rfl, rfl⟩
        have EB := EA
        have RB := RA
        have htk : r.live.take (i + 1) = r.live.take i ++ [x] := by
          obtain ⟨h1, h2⟩ := List.getElem?_eq_some_iff.1 hx
          rw [List.take_succ_eq_append_getElem h1, h2]
        cases g : mGood x.name with
        | false =>
          have hb : chkF r = 36 := by
            rw [hchk, if_neg]
            intro hh
            have := List.all_eq_true.1 hh x hxm
            rw [g] at this
            cases this
          simp only [core, zrA, zrS, zrM, zrL, zrE, reduceCtorEq, zrD, ziE, ziL, ziN, hn, g1, g101, g102, g103, aundef, g, hb]
          first | exact EB | exact ⟨EB, rfl⟩
        | true =>
          simp only [core, zrA, zrS, zrM, zrL, zrE, reduceCtorEq, zrD, ziE, ziL, ziN, hn, g1, g101, g102, g103, aundef, g, hwi]
          refine ih _ _ ⟨EB, RB, fun s hs => ?_, ?_⟩
          · rw [htk] at hs
            rcases List.mem_append.1 hs with hs | hs
            · exact hgood s hs
            · obtain rfl := List.mem_singleton.1 hs
              exact g
          · simp only [core, zrA, zrS, zrM, zrL, zrE, reduceCtorEq, zrD, ziE, ziL, ziN, hn, g1, g101, g102, g103]
      · rintro t h hc3 ⟨E, R, hgood, hn, g1, g101, g102, g103⟩
        have hb : chkF r = 0 := by
          rw [hchk, if_pos]
          rw [hM, List.take_length] at hgood
          exact List.all_eq_true.2 hgood
        simp only [core, zrA, zrS, zrM, zrL, zrE, reduceCtorEq, zrD, ziE, ziL, ziN, hn, g1, g101, g102, g103, hc3, hb]
        first | exact E | exact ⟨E, rfl⟩
      · refine ⟨E, R, fun s hs => by simp at hs, ?_⟩
        simp only [core, zrA, zrS, zrM, zrL, zrE, reduceCtorEq, zrD, ziE, ziL, ziN, hn, g1, g3, g52, g53, g54]
        try ((repeat' apply And.intro) <;> first | rfl | trivial)
    · refine ⟨E, hpn, R, ⟨es, c, ks, hmap, hcnt.mono (by omega), fun x => by rw [hks]; simp⟩, rfl, ?_⟩
      simp only [core, zrA, zrS, zrM, zrL, zrE, reduceCtorEq, zrD, ziE, ziL, ziN, hn, g1, g3, g22, g23, g24]
      try ((repeat' apply And.intro) <;> first | rfl | trivial)
  · refine ⟨E0, by rw [hhq, n_push]; omega, P1, ⟨[], 0, [], Q0, trivial, fun x => by simp⟩, rfl, ?_⟩
    simp only [core, zrA, zrS, zrM, zrL, zrE, reduceCtorEq, zrD, ziE, ziL, ziN]
    try ((repeat' apply And.intro) <;> first | rfl | trivial)
end Go.Proofs.YtjicijhakcmifaaGreatDoor.Ex
end

section

set_option linter.unusedSimpArgs false
set_option linter.unusedVariables false
set_option maxRecDepth 10000
set_option maxHeartbeats 4000000
namespace Go.Proofs.YtjicijhakcmifaaGreatDoor.Ex
open Go
section
variable {α : Type}
/-- Elements whose cells are known. -/
structure FlatK (R : Rep α) (cf : α → List AV) (z : Nat) : Prop where
  hz : R.z = z
  z0 : 0 < z
  len : ∀ x, (cf x).length = z
  is : ∀ F h c x, R.is F h c x ↔ c = cf x
variable {R : Rep α} {cf : α → List AV} {z : Nat}
theorem flatMap_len (hl : ∀ x, (cf x).length = z) : ∀ l : List α, (l.flatMap cf).length = l.length * z
  | [] => by simp
  | x :: r => by rw [List.flatMap_cons, List.length_append, flatMap_len hl r, hl, List.length_cons, Nat.succ_mul]; omega
theorem flatMap_split {l : List α} {i : Nat} {x : α} (hx : l[i]? = some x) : l.flatMap cf = (l.take i).flatMap cf ++ (cf x ++ (l.drop (i + 1)).flatMap cf) := by
  obtain ⟨hi, rfl⟩ := List.getElem?_eq_some_iff.1 hx
  conv => lhs; rw [← List.take_append_drop i l, List.drop_eq_getElem_cons hi]
  rw [List.flatMap_append, List.flatMap_cons]
theorem put_el {l : List α} {i : Nat} {y : α} (hl : ∀ x, (cf x).length = z) (hi : i < l.length) : put (l.flatMap cf) (i * z) (cf y) = some ((l.set i y).flatMap cf) := by
  have hx : l[i]? = some l[i] := List.getElem?_eq_getElem hi
  have h2 : (l.set i y)[i]? = some y := by rw [List.getElem?_set_self hi]
  have ht : (l.set i y).take i = l.take i := by rw [List.take_set_of_le (Nat.le_refl i)]
  have hd : (l.set i y).drop (i + 1) = l.drop (i + 1) := by rw [List.drop_set_of_lt (by omega)]
  have h3 := flatMap_len hl (l.take i)
  rw [List.length_take, Nat.min_eq_left (by omega)] at h3
  rw [flatMap_split hx, flatMap_split h2, ht, hd]
  unfold put
  rw [if_pos (by simp only [List.length_append, h3, hl]; omega)]
  congr 1
  have hkl : (cf l[i]).length = z := hl _
  have t1 : ((l.take i).flatMap cf ++ (cf l[i] ++ (l.drop (i + 1)).flatMap cf)).take (i * z) = (l.take i).flatMap cf := List.take_left' h3
  have t2 : ((l.take i).flatMap cf ++ (cf l[i] ++ (l.drop (i + 1)).flatMap cf)).drop (i * z + (cf y).length) = (l.drop (i + 1)).flatMap cf := by
    rw [← List.append_assoc]
    exact List.drop_left' (by rw [List.length_append, h3, hl, hl])
  rw [t1, t2, List.append_assoc]
/-- A row of the run's own; behind it there may be more of its block. -/
def OwnX (cf : α → List AV) (z n0 : Nat) (h : AH) (v : AV) (e : TypeId) (xs : List α) : Prop :=
  (v = .lit (.slice none 0 0) ∧ xs = []) ∨ (xs = [] ∧ ∃ p, n0 ≤ p ∧ v = .sl p 0 0 (.kn 0) ∧ h.at p = some (.cells [] e)) ∨ ∃ p l, n0 ≤ p ∧ v = .sl p 0 xs.length (.un z) ∧ h.at p = some (.cells (xs.flatMap cf ++ l) e)
/-- It is all of its block. -/
def OwnW (cf : α → List AV) (z n0 : Nat) (h : AH) (v : AV) (e : TypeId) (xs : List α) : Prop := ∃ p, n0 ≤ p ∧ v = .sl p 0 xs.length (.un z) ∧ h.at p = some (.cells (xs.flatMap cf) e)
variable {n0 : Nat} {h h' : AH} {v : AV} {e : TypeId} {xs : List α}
theorem OwnW.toX (ho : OwnW cf z n0 h v e xs) : OwnX cf z n0 h v e xs := by
  obtain ⟨p, h1, h2, h3⟩ := ho
  exact .inr (.inr ⟨p, [], h1, h2, by rw [List.append_nil]; exact h3⟩)
theorem OwnX.isSl (ho : OwnX cf z n0 h v e xs) : Ex.isSl v = true := by
  rcases ho with ⟨rfl, _⟩ | ⟨_, p, _, rfl, _⟩ | ⟨p, l, _, rfl, _⟩ <;> rfl
theorem OwnX.one (ho : OwnX cf z n0 h v e xs) : v.one = true := by
  rcases ho with ⟨rfl, _⟩ | ⟨_, p, _, rfl, _⟩ | ⟨p, l, _, rfl, _⟩ <;> rfl
theorem OwnX.lenD (ho : OwnX cf z n0 h v e xs) : Ex.lenD v = xs.length := by
  rcases ho with ⟨rfl, rfl⟩ | ⟨rfl, p, _, rfl, _⟩ | ⟨p, l, _, rfl, _⟩ <;> rfl
theorem OwnX.ext {m : Nat} (ho : OwnX cf z n0 h v e xs) (he : Ext m h h') (hm : h.n ≤ m) : OwnX cf z n0 h' v e xs := by
  rcases ho with hh | ⟨h0, p, hp, hv, hat⟩ | ⟨p, l, hp, hv, hat⟩
  · exact .inl hh
  · exact .inr (.inl ⟨h0, p, hp, hv, (he.2 _ (by have := at_lt hat; omega)).trans hat⟩)
  · exact .inr (.inr ⟨p, l, hp, hv, (he.2 _ (by have := at_lt hat; omega)).trans hat⟩)
theorem OwnX.putLt {b : Nat} {x : AB} (ho : OwnX cf z n0 h v e xs) (hb : b < n0) : OwnX cf z n0 (h.put b x) v e xs := by
  rcases ho with hh | ⟨h0, p, hp, hv, hat⟩ | ⟨p, l, hp, hv, hat⟩
  · exact .inl hh
  · exact .inr (.inl ⟨h0, p, hp, hv, (at_put_ne _ (by omega)).trans hat⟩)
  · exact .inr (.inr ⟨p, l, hp, hv, (at_put_ne _ (by omega)).trans hat⟩)
theorem OwnX.mono {n1 : Nat} (ho : OwnX cf z n0 h v e xs) (hn : n1 ≤ n0) : OwnX cf z n1 h v e xs := by
  rcases ho with hh | ⟨h0, p, hp, hv, hat⟩ | ⟨p, l, hp, hv, hat⟩
  · exact .inl hh
  · exact .inr (.inl ⟨h0, p, by omega, hv, hat⟩)
  · exact .inr (.inr ⟨p, l, by omega, hv, hat⟩)
theorem OwnX.keep (ho : OwnX cf z n0 h v e xs) (hk : ∀ b off n cap, v = .sl b off n cap → h'.at b = h.at b) : OwnX cf z n0 h' v e xs := by
  rcases ho with hh | ⟨h0, p, hp, hv, hat⟩ | ⟨p, l, hp, hv, hat⟩
  · exact .inl hh
  · exact .inr (.inl ⟨h0, p, hp, hv, (hk _ _ _ _ hv).trans hat⟩)
  · exact .inr (.inr ⟨p, l, hp, hv, (hk _ _ _ _ hv).trans hat⟩)
theorem OwnX.blk (ho : OwnX cf z n0 h v e xs) {b off n : Nat} {cap : Cap} (hv : v = .sl b off n cap) : b < h.n ∧ n0 ≤ b ∧ ∃ l, h.at b = some (.cells l e) := by
  rcases ho with ⟨hh, _⟩ | ⟨h0, p, hp, hh, hat⟩ | ⟨p, l, hp, hh, hat⟩
  · rw [hh] at hv; cases hv
  · rw [hh] at hv; cases hv; exact ⟨at_lt hat, hp, _, hat⟩
  · rw [hh] at hv; cases hv; exact ⟨at_lt hat, hp, _, hat⟩
/-- Rows of other elements lie elsewhere. -/
theorem OwnX.sep {β : Type} {cg : β → List AV} {y n1 : Nat} {u : AV} {e2 : TypeId} {ys : List β} (ho : OwnX cf z n0 h v e xs) (hu : OwnX cg y n1 h u e2 ys) (hne : e ≠ e2) {b off n : Nat} {cap : Cap} (hv : v = .sl b off n cap) : Apart u b := by
  intro off2 n2 cap2 hu2
  obtain ⟨_, _, l1, k1⟩ := ho.blk hv
  obtain ⟨_, _, l2, k2⟩ := hu.blk hu2
  rw [k1] at k2
  cases k2
  exact hne rfl
theorem els_flat (hR : FlatK R cf z) {F : Nat → Prop} (xs : List α) : Els R F h (xs.map cf) xs :=
  ⟨by simp, fun i c x h1 h2 => by
    rw [List.getElem?_map, h2] at h1
    simp only [Option.map_some, Option.some.injEq] at h1
    exact (hR.is _ _ _ _).2 h1.symm⟩
theorem OwnX.toSl (hR : FlatK R cf z) {F : Nat → Prop} (ho : OwnX cf z n0 h v e xs) (hn : ∀ b, n0 ≤ b → F b) : IsSl R F h v xs := by
  rcases ho with ⟨rfl, rfl⟩ | ⟨rfl, p, hp, rfl, hat⟩ | ⟨p, l, hp, rfl, hat⟩
  · exact OwnL.nil.toSl (G := fun _ => False) (fun _ hf => hf.elim) (n0 := n0) (e := e) hn
  · exact .mk (L := []) ⟨by simp, .inr ⟨p, 0, _, [], rfl, by unfold getR; rw [hat], by simp [cut]⟩⟩ (fun b off n cap e => by cases e; exact hn _ hp) (fun b off n cap e => by cases e; exact Nat.le_refl 0) .nil
  · refine .mk (L := xs.map cf) ⟨fun c hc => ?_, .inr ⟨p, 0, .un z, _, by rw [List.length_map], by unfold getR; rw [hat], ?_⟩⟩ (fun b off n cap e => by cases e; exact hn _ hp) (fun b off n cap e => by cases e; exact hR.hz.symm ▸ rfl) (els_flat hR xs)
    · obtain ⟨x, _, rfl⟩ := List.mem_map.1 hc
      rw [hR.len, hR.hz]
    · unfold cut
      have hl := flatMap_len hR.len xs
      rw [List.length_map, hR.hz, if_pos (by rw [List.length_append, hl]; omega), List.drop_zero, ← hl, List.take_left', List.flatMap_def]
      rfl
theorem appendA_one {T : TT} {t : TypeId} {by' q n : Nat} {zv s : AV} {c : List AV} {cap : Cap} {e' : TypeId} (hu : und T t = some (.slice e)) (hz : sizeT T e = some z) (hzv : zeroT T e = some zv) (hb : bytesT T e = some by')
    (hzl : zv.cells.length = z) (h0 : 0 < z) (h200 : z ≤ 200) (hq : h.at q = some (.cells c e')) (hc : c.length = z) (h1 : c.all AV.one = true) (hs : lenA s = some n) (hn : n + 1 ≤ 4611686018427387904) (hby : (n + 1) * by' ≤ 140737488355328) :
    appendA T h t t s (.sl q 0 1 cap) = appendB h e z 1 c s := by
  simp only [sizeT, zeroT, bytesT, Option.map_eq_some_iff] at hz hzv hb
  obtain ⟨i, hi, rfl⟩ := hz
  obtain ⟨i2, hi2, rfl⟩ := hzv
  obtain ⟨i3, hi3, rfl⟩ := hb
  rw [hi] at hi2 hi3
  obtain rfl := Option.some.inj hi2
  obtain rfl := Option.some.inj hi3
  have hg : getR h q = some c := by unfold getR; rw [hq]
  have hx : srcA h i.size (.sl q 0 1 cap) = some c := by
    simp only [srcA, hg, cut]
    rw [if_pos (by omega)]
    simp [← hc]
  unfold appendA
  rw [hu]
  simp only [hi, show lenA (AV.sl q 0 1 cap) = some 1 from rfl, hs]
  rw [show (isSrcD i.size (.slice e) && Nat.blt 0 i.size && Nat.ble i.size 200 && Nat.beq i.zero.cells.length i.size && Nat.ble (n + 1) 4611686018427387904 && Nat.ble ((n + 1) * i.bytes) 140737488355328) = true by
    simp only [Bool.and_eq_true, Nat.ble_eq, Nat.blt_eq]
    exact ⟨⟨⟨⟨⟨rfl, h0⟩, h200⟩, by rw [hzl]; exact Nat.beq_refl _⟩, hn⟩, hby⟩]
  simp only [cond_true, hx]
  rw [show (Nat.beq c.length (1 * i.size) && c.all AV.one) = true by
    rw [hc, h1, Nat.one_mul, Nat.beq_refl]; rfl]
  rfl
/-- One more behind it: then it is all of its block. -/
theorem OwnX.snoc {T : TT} {t : TypeId} {by' q : Nat} {zv : AV} {y : α} {cap : Cap} {e' : TypeId} (hR : FlatK R cf z) (ho : OwnX cf z n0 h v e xs) (hu : und T t = some (.slice e)) (hz : sizeT T e = some z) (hzv : zeroT T e = some zv) (hb : bytesT T e = some by')
    (hzl : zv.cells.length = z) (h200 : z ≤ 200) (hq : h.at q = some (.cells (cf y) e')) (hn : xs.length + 1 ≤ 4611686018427387904) (hby : (xs.length + 1) * by' ≤ 140737488355328) (hn0 : n0 ≤ h.n) :
    ∃ s' h', appendA T h t t v (.sl q 0 1 cap) = some (s', h') ∧ OwnW cf z n0 h' s' e (xs ++ [y]) ∧ Ext n0 h h' := by
  have h1 : (cf y).all AV.one = true := by
    rw [List.all_eq_true]
    exact fun w hw => R.one ((hR.is (fun _ => True) h _ _).2 rfl) w hw
  have hs : lenA v = some xs.length := by
    rcases ho with ⟨rfl, rfl⟩ | ⟨rfl, p, hp, rfl, hat⟩ | ⟨p, l, hp, rfl, hat⟩ <;> rfl
  rw [appendA_one hu hz hzv hb hzl hR.z0 h200 hq (hR.len y) h1 hs hn hby]
  rcases ho with ⟨rfl, rfl⟩ | ⟨rfl, p, hp, rfl, hat⟩ | ⟨p, l, hp, rfl, hat⟩
  · exact ⟨_, _, rfl, ⟨h.n, hn0, rfl, by rw [at_push_n]; simp⟩, (Ext.refl _ _).push _ hn0⟩
  · have hg : getR h p = some [] := by unfold getR; rw [hat]
    have hc : cut ([] : List AV) 0 (0 * z) = some [] := by simp [cut]
    refine ⟨.sl h.n 0 1 (.un z), h.push (.cells ([] ++ cf y) e), ?_, ⟨h.n, hn0, rfl, by rw [at_push_n]; simp⟩, (Ext.refl _ _).push _ hn0⟩
    unfold appendB
    simp only [show Nat.beq 1 0 = false from rfl, show Nat.ble (0 + 1) 0 = false from rfl, hg, hc, cond_false]
  · have hg : getB h p = some (xs.flatMap cf ++ l, e) := by unfold getB; rw [hat]
    have hl := flatMap_len hR.len xs
    have hc : cut (xs.flatMap cf ++ l) 0 (xs.length * z) = some (xs.flatMap cf) := by
      unfold cut
      rw [if_pos (by rw [List.length_append, hl]; omega), List.drop_zero, ← hl, List.take_left']
      rfl
    refine ⟨.sl h.n 0 (xs.length + 1) (.un z), (h.put p .gone).push (.cells (xs.flatMap cf ++ cf y) e), ?_, ⟨h.n, hn0, by simp, ?_⟩, ((Ext.refl n0 h).put .gone hp).push _ (by rw [n_put]; exact hn0)⟩
    · unfold appendB
      simp only [show Nat.beq 1 0 = false from rfl, hg, hc, cond_false, Nat.beq_refl, Bool.and_self, cond_true]
    · have := at_push_n (h.put p .gone) (.cells (xs.flatMap cf ++ cf y) e)
      rw [n_put] at this
      rw [this]
      simp
/-- What is appended to an empty slice without room. -/
theorem ownx_clone {T : TT} {F : Nat → Prop} {zv : AV} {t : TypeId} {by' p : Nat} (hR : FlatK R cf z) (hu : und T t = some (.slice e)) (hz : sizeT T e = some z) (hzv : zeroT T e = some zv) (hb : bytesT T e = some by')
    (hzl : zv.cells.length = z) (h200 : z ≤ 200) (hv : IsSl R F h v xs) (hn : xs.length ≤ 4611686018427387904) (hl : xs.length * by' ≤ 140737488355328) (hp : h.at p = some (.cells [] e)) (hp0 : n0 ≤ p) (hn0 : n0 ≤ h.n) :
    ∃ s' h', appendA T h t t (.sl p 0 0 (.kn 0)) v = some (s', h') ∧ OwnX cf z n0 h' s' e xs ∧ Ext h.n h h' := by
  obtain ⟨L, h1, h2, h3, h4⟩ := hv.out
  have e0 := h4.1
  have hL : L = xs.map cf := by
    refine List.ext_getElem? fun i => ?_
    rw [List.getElem?_map]
    cases hx : xs[i]? with
    | none => rw [List.getElem?_eq_none_iff] at hx; rw [Option.map_none, List.getElem?_eq_none_iff]; omega
    | some x =>
      have hi := (List.getElem?_eq_some_iff.1 hx).1
      have := h4.2 i L[i] x (List.getElem?_eq_getElem (by omega)) hx
      rw [List.getElem?_eq_getElem (by omega), (hR.is _ _ _ _).1 this]
      rfl
  rcases append_fresh (T := T) (h := h) (t := t) (tx := t) (e := e) (M := L) (p := p) (x := v) hu hu hz hzv hb hzl hR.z0 h200 hp (by have := h1.src; rw [hR.hz] at this; exact this) h1.len (fun c hc => by have := h4.lens c hc; rw [hR.hz] at this; exact this) h4.ones (by omega) (by rw [e0]; exact hl) with ⟨hM, ha⟩ | ⟨hM, ha⟩
  · have hx0 : xs = [] := List.eq_nil_of_length_eq_zero (by rw [← e0, hM]; rfl)
    exact ⟨_, _, ha, .inr (.inl ⟨hx0, p, hp0, rfl, hp⟩), Ext.refl _ _⟩
  · refine ⟨_, _, ha, .inr (.inr ⟨h.n, [], hn0, by rw [e0], ?_⟩), (Ext.refl _ _).push _ (Nat.le_refl _)⟩
    rw [at_push_n, List.append_nil, hL, List.flatMap_def]
end
def txC (x : List UInt8) : List AV := [.lit (.string ⟨x.toArray⟩)]
theorem flatTx : FlatK RTx txC 1 := ⟨rfl, by decide, fun _ => rfl, fun _ _ _ _ => Iff.rfl⟩
theorem flatSet : FlatK RSet setC 35 := ⟨rfl, by decide, fun _ => rfl, fun _ _ _ _ => Iff.rfl⟩
theorem cloneT_x {F : Nat → Prop} {H : AH} {v : AV} {xs : List (List UInt8)} (hv : IsSl RTx F H v xs) (hl : xs.length ≤ 1000000) :
    WC Tryz.prog (tabOf Tryz.prog NT0) S0 45 [v] H fun r h' => Ext H.n H h' ∧ OwnX txC 1 H.n h' r 9 xs := by
  refine WC_fn Tryz.func45 rfl rfl ?_
  have s1 := hv.isSl
  have s2 := hv.lenD
  simp only [core, zrA, zrS, zrM, zrL, zrE, reduceCtorEq, zrD, ziE, ziL, ziN, Tryz.ntmps45, s1, s2]
  refine ⟨fun he => ?_, fun he => ?_⟩
  · obtain rfl := hv.empty he
    exact ⟨Ext.refl _ _, .inl ⟨rfl, rfl⟩⟩
  · have hv2 : IsSl RTx F (H.push (.cells [] 9)) v xs := hv.ext ((Ext.refl H.n H).push _ (Nat.le_refl _)) (Nat.le_refl _)
    refine WOp_app (ownx_clone (n0 := H.n) flatTx (by kernel_rfl) (by kernel_rfl) (zv := .lit (.string ⟨#[]⟩)) (by kernel_rfl) (by' := 16) (by kernel_rfl) rfl (by decide) hv2 (by omega) (by omega) (at_push_n H _) (Nat.le_refl _) (by rw [n_push]; omega)) ?_
    rintro s' h' ⟨e1, e2⟩
    have v1 := e1.isSl
    simp only [core, zrA, zrS, zrM, zrL, zrE, reduceCtorEq, zrD, ziE, ziL, ziN, v1]
    exact ⟨((Ext.refl H.n H).push _ (Nat.le_refl _)).trans (e2.mono (by rw [n_push]; omega)), e1⟩
theorem cloneS_x {F : Nat → Prop} {H : AH} {v : AV} {xs : List SetD} (hv : IsSl RSet F H v xs) (hl : xs.length ≤ 1000000) :
    WC Tryz.prog (tabOf Tryz.prog NT0) S0 44 [v] H fun r h' => Ext H.n H h' ∧ OwnX setC 35 H.n h' r 39 xs := by
  refine WC_fn Tryz.func44 rfl rfl ?_
  have s1 := hv.isSl
  have s2 := hv.lenD
  simp only [core, zrA, zrS, zrM, zrL, zrE, reduceCtorEq, zrD, ziE, ziL, ziN, Tryz.ntmps44, s1, s2]
  refine ⟨fun he => ?_, fun he => ?_⟩
  · obtain rfl := hv.empty he
    exact ⟨Ext.refl _ _, .inl ⟨rfl, rfl⟩⟩
  · have hv2 : IsSl RSet F (H.push (.cells [] 39)) v xs := hv.ext ((Ext.refl H.n H).push _ (Nat.le_refl _)) (Nat.le_refl _)
    obtain ⟨zv, hzv⟩ : ∃ zv, zv = AV.agg (setC set0) := ⟨_, rfl⟩
    refine WOp_app (ownx_clone (n0 := H.n) flatSet (by kernel_rfl) (by kernel_rfl) (zv := .agg (setC set0)) (by kernel_rfl) (by' := 72) (by kernel_rfl) rfl (by decide) hv2 (by omega) (by omega) (at_push_n H _) (Nat.le_refl _) (by rw [n_push]; omega)) ?_
    rintro s' h' ⟨e1, e2⟩
    have v1 := e1.isSl
    simp only [core, zrA, zrS, zrM, zrL, zrE, reduceCtorEq, zrD, ziE, ziL, ziN, v1]
    exact ⟨((Ext.refl H.n H).push _ (Nat.le_refl _)).trans (e2.mono (by rw [n_push]; omega)), e1⟩
/-- A root's clone. -/
theorem clone_x {F : Nat → Prop} {H : AH} {vl vo : AV} {r : RootD} (hl : IsSl RSet F H vl r.live) (ho : IsSl RTx F H vo r.ops) (nl : r.live.length ≤ 1000000) (no : r.ops.length ≤ 1000000) :
    WC Tryz.prog (tabOf Tryz.prog NT0) S0 20 [.agg [vl, vo]] H fun v h' => Ext H.n H h' ∧ ∃ a b, v = .agg [a, b] ∧ OwnX setC 35 H.n h' a 39 r.live ∧ OwnX txC 1 H.n h' b 9 r.ops := by
  refine WC_fn Tryz.func20 rfl rfl ?_
  have l1 := hl.one
  have l2 := hl.isSl
  have o1 := ho.one
  have o2 := ho.isSl
  obtain ⟨hp, hhp⟩ : ∃ hp, hp = H.push (.cells [vl, vo] 27) := ⟨_, rfl⟩
  obtain ⟨hq, hhq⟩ : ∃ hq, hq = hp.push (.cells [.lit (.slice none 0 0), .lit (.slice none 0 0)] 27) := ⟨_, rfl⟩
  have EP : Ext H.n H hp := hhp ▸ (Ext.refl _ _).push _ (Nat.le_refl _)
  have P0 : hp.at H.n = some (.cells [vl, vo] 27) := hhp ▸ at_push_n _ _
  have EQ : Ext hp.n hp hq := hhq ▸ (Ext.refl _ _).push _ (Nat.le_refl _)
  have Q0 : hq.at hp.n = some (.cells [.lit (.slice none 0 0), .lit (.slice none 0 0)] 27) := hhq ▸ at_push_n _ _
  have nP : hp.n = H.n + 1 := by rw [hhp, n_push]
  have nQ : hq.n = H.n + 2 := by rw [hhq, n_push, nP]
  have P1 := (EQ.2 _ (at_lt P0)).trans P0
  have LP := ld_at (T := tabOf Tryz.prog NT0) P1
  have lP := at_lt P1
  have E0 := EP.trans (EQ.mono EP.1)
  simp only [core, zrA, zrS, zrM, zrL, zrE, reduceCtorEq, zrD, ziE, ziL, ziN, Tryz.ntmps20, l1, l2, o1, o2, ← hhp, ← hhq]
  rw [WB_regionD [0, 1, 3, 4, 2, 5, 6, 7] 9169081485570015488 (by kernel_rfl)]
  repeat ((with_reducible refine WDM_cons ?_; simp only [dw1]; try simp only [dw2, zrA, zrM, zrR, zrO, zrE]); simp only [core, zrA, zrS, zrM, zrL, zrE, reduceCtorEq, zrD, ziE, ziL, ziN, cored, LP, lP])
  refine ⟨by rw [same_sl l2, same_sl o2]; rfl, (cloneS_x (hl.ext E0 (Nat.le_refl _)) nl).mono ?_⟩
  rintro va h2 ⟨E2, oa⟩
  have a1 := oa.one
  have a2 := oa.isSl
  have P2 := (E2.2 _ (by omega)).trans P1
  have LP2 := ld_at (T := tabOf Tryz.prog NT0) P2
  have lP2 := at_lt P2
  repeat ((with_reducible refine WDM_cons ?_; simp only [dw1]; try simp only [dw2, zrA, zrM, zrR, zrO, zrE]); simp only [core, zrA, zrS, zrM, zrL, zrE, reduceCtorEq, zrD, ziE, ziL, ziN, cored, LP2, lP2, a1, a2])
  have E02 := E0.trans (E2.mono E0.1)
  refine ⟨same_sl o2, (cloneT_x (ho.ext E02 (Nat.le_refl _)) no).mono ?_⟩
  rintro vb h3 ⟨E3, ob⟩
  have b1 := ob.one
  have b2 := ob.isSl
  have lq : hp.n < h3.n := by have := E2.1; have := E3.1; omega
  have Q3 : h3.at hp.n = some (.cells [.lit (.slice none 0 0), .lit (.slice none 0 0)] 27) := (E3.2 _ (by have := E2.1; omega)).trans ((E2.2 _ (by omega)).trans Q0)
  have Q4 : (h3.put hp.n (.cells [va, vb] 27)).at hp.n = _ := at_put_same _ lq
  have LQ3 := ld_at (T := tabOf Tryz.prog NT0) Q4
  have E03 := E02.trans (E3.mono E02.1)
  repeat ((with_reducible refine WDM_cons ?_; simp only [dw1]; try simp only [dw2, zrA, zrM, zrR, zrO, zrE]); simp only [core, zrA, zrS, zrM, zrL, zrE, reduceCtorEq, zrD, ziE, ziL, ziN, cored, Q3, lq, a1, a2, b1, b2])
  have := E2.1
  exact ⟨E03.put _ (by omega), va, vb, rfl, ((oa.ext E3 (Nat.le_refl _)).putLt (by omega)).mono (by omega), (ob.putLt (by omega)).mono (by omega)⟩
end Go.Proofs.YtjicijhakcmifaaGreatDoor.Ex
end

section

set_option linter.unusedSimpArgs false
set_option linter.unusedVariables false
set_option maxRecDepth 10000
set_option maxHeartbeats 4000000
namespace Go.Proofs.YtjicijhakcmifaaGreatDoor.Ex
open Go
section
variable {α : Type}
def ixF (p : α → Bool) (xs : List α) : Int := match xs.findIdx? p with | some k => (k : Int) | none => -1
theorem idx_yes {p : α → Bool} {xs : List α} {i : Nat} {x : α} (hx : xs[i]? = some x) (hp : p x = true) (hn : ∀ y ∈ xs.take i, p y = false) : ixF p xs = (i : Int) := by
  obtain ⟨hi, rfl⟩ := List.getElem?_eq_some_iff.1 hx
  have : xs.findIdx? p = some i := List.findIdx?_eq_some_iff_getElem.2 ⟨hi, hp, fun j hj => by
    have := hn xs[j] (List.mem_take_iff_getElem.2 ⟨j, by omega, rfl⟩)
    rw [this]; decide⟩
  unfold ixF
  rw [this]
theorem idx_no {p : α → Bool} {xs : List α} (hn : ∀ y ∈ xs, p y = false) : ixF p xs = -1 := by
  have : xs.findIdx? p = none := List.findIdx?_eq_none_iff.2 hn
  unfold ixF
  rw [this]
theorem idx_any {p : α → Bool} {xs : List α} : decide (0 ≤ ixF p xs) = xs.any p := by
  unfold ixF
  cases h : xs.findIdx? p with
  | some k =>
    obtain ⟨h1, h2, -⟩ := List.findIdx?_eq_some_iff_getElem.1 h
    rw [List.any_eq_true.2 ⟨_, List.getElem_mem h1, h2⟩]
    simp
  | none =>
    have := List.findIdx?_eq_none_iff.1 h
    rw [List.any_eq_false.2 fun x hx => by rw [this x hx]; decide]
    rfl
theorem take_none {p : α → Bool} {xs : List α} {i : Nat} {x : α} (hx : xs[i]? = some x) (hp : p x = false) (hn : ∀ y ∈ xs.take i, p y = false) : ∀ y ∈ xs.take (i + 1), p y = false := fun y hy => by
  obtain ⟨h1, h2⟩ := List.getElem?_eq_some_iff.1 hx
  rw [List.take_succ_eq_append_getElem h1, h2] at hy
  rcases List.mem_append.1 hy with hy | hy
  · exact hn y hy
  · rw [List.mem_singleton.1 hy]; exact hp
end
theorem indexT_x {F : Nat → Prop} {H : AH} {v : AV} {xs : List (List UInt8)} {id : List UInt8} (hv : IsSl RTx F H v xs) (hl : xs.length ≤ 1000000) :
    WC Tryz.prog (tabOf Tryz.prog NT0) S0 48 [v, .lit (.string ⟨id.toArray⟩)] H fun r h' => Ext H.n H h' ∧ r = .lit (.int .i64 (ixF (fun x => id == x) xs)) := by
  refine WC_fn Tryz.func48 rfl rfl ?_
  have s1 := hv.isSl
  have s2 := hv.lenD
  have s3 := hv.one
  simp only [core, zrA, zrS, zrM, zrL, zrE, reduceCtorEq, zrD, ziE, ziL, ziN, Tryz.ntmps48, s1, s2, s3]
  refine WB_for xs.length (fun i t h => Ext H.n H h ∧ (∀ y ∈ xs.take i, (id == y) = false) ∧ t.n = 19 ∧ t.get 0 = v ∧ t.get 1 = .lit (.string ⟨id.toArray⟩) ∧ t.get 7 = .lit (.int .i64 xs.length) ∧ t.get 8 = .lit (.int .i64 i)) ?_ ?_ _ _ ?_
  · rintro i t h hlt hc ⟨he, hf, hn, g0, g1, g7, g8⟩ ih
    obtain ⟨x, hx⟩ : ∃ x, xs[i]? = some x := ⟨_, List.getElem?_eq_getElem hlt⟩
    obtain ⟨c, hc1, hld, hld0⟩ := hv.atE (T := tabOf Tryz.prog NT0) he RTx_z hx
    obtain rfl := RTx_is.1 hc1
    have ld0 : loadA (tabOf Tryz.prog NT0) h 9 (slB v) (slO v + i) = some (.lit (.string ⟨x.toArray⟩)) := by
      have ld := hld0 9 1 (by kernel_rfl) (by decide) (by decide)
      rw [Nat.mul_one] at ld
      rw [ld]
      rfl
    have hws := wrap_succ hlt (by omega)
    cases hq : (id == x) with
    | true =>
      have hd := idx_yes (p := fun x => id == x) hx hq hf
      simp only [core, zrA, zrS, zrM, zrL, zrE, reduceCtorEq, zrD, ziE, ziL, ziN, s1, s2, s3, hn, g0, g1, g7, g8, hlt, hc, ld0, hws, pur_seq, hq]
      first | exact ⟨he, by rw [hd]⟩
    | false =>
      simp only [core, zrA, zrS, zrM, zrL, zrE, reduceCtorEq, zrD, ziE, ziL, ziN, s1, s2, s3, hn, g0, g1, g7, g8, hlt, hc, ld0, hws, pur_seq, hq]
      refine ih _ _ ⟨he, take_none (p := fun x => id == x) hx hq hf, ?_⟩
      simp only [core, zrA, zrS, zrM, zrL, zrE, reduceCtorEq, zrD, ziE, ziL, ziN, hn, g0, g1, g7, g8]
  · rintro t h hc ⟨he, hf, hn, g0, g1, g7, g8⟩
    rw [List.take_length] at hf
    have hd := idx_no (p := fun x => id == x) hf
    simp only [core, zrA, zrS, zrM, zrL, zrE, reduceCtorEq, zrD, ziE, ziL, ziN, s1, s2, s3, hn, g0, g1, g7, g8, hc]
    first | exact ⟨he, by rw [hd]⟩
  · refine ⟨Ext.refl _ _, fun y hy => by simp at hy, ?_⟩
    simp only [core, zrA, zrS, zrM, zrL, zrE, reduceCtorEq, zrD, ziE, ziL, ziN]
    try ((repeat' apply And.intro) <;> first | rfl | trivial)
theorem containsT_x {F : Nat → Prop} {H : AH} {v : AV} {xs : List (List UInt8)} {id : List UInt8} (hv : IsSl RTx F H v xs) (hl : xs.length ≤ 1000000) :
    WC Tryz.prog (tabOf Tryz.prog NT0) S0 23 [v, .lit (.string ⟨id.toArray⟩)] H fun r h' => Ext H.n H h' ∧ r = .lit (.bool (xs.any fun x => id == x)) := by
  refine WC_fn Tryz.func23 rfl rfl ?_
  have s1 := hv.isSl
  have s3 := hv.one
  simp only [core, zrA, zrS, zrM, zrL, zrE, reduceCtorEq, zrD, ziE, ziL, ziN, Tryz.ntmps23, s1, s3]
  refine (indexT_x hv hl).mono ?_
  rintro _ h2 ⟨E2, rfl⟩
  have hd := idx_any (p := fun x => id == x) (xs := xs)
  simp only [core, zrA, zrS, zrM, zrL, zrE, reduceCtorEq, zrD, ziE, ziL, ziN]
  first | exact ⟨E2, by rw [hd]⟩ | (rw [hd]; exact ⟨E2, rfl⟩) | done
theorem indexFS_x {F : Nat → Prop} {H : AH} {v : AV} {xs : List SetD} {f b : Nat} {p : SetD → Bool} (hv : IsSl RSet F H v xs) (hl : xs.length ≤ 1000000)
    (hf : ∀ h x, Ext H.n H h → x ∈ xs → WC Tryz.prog (tabOf Tryz.prog NT0) S0 f [.agg (setC x), .ptr b 0] h fun r h' => Ext h.n h h' ∧ r = .lit (.bool (p x))) :
    WC Tryz.prog (tabOf Tryz.prog NT0) S0 51 [v, .fn (.func f) [] [.ptr b 0]] H fun r h' => Ext H.n H h' ∧ r = .lit (.int .i64 (ixF p xs)) := by
  refine WC_fn Tryz.func51 rfl rfl ?_
  have s1 := hv.isSl
  have s2 := hv.lenD
  have s3 := hv.one
  simp only [core, zrA, zrS, zrM, zrL, zrE, reduceCtorEq, zrD, ziE, ziL, ziN, Tryz.ntmps51, s1, s2, s3]
  refine WB_for xs.length (fun i t h => Ext H.n H h ∧ (∀ y ∈ xs.take i, p y = false) ∧ t.n = 19 ∧ t.get 0 = v ∧ t.get 1 = .fn (.func f) [] [.ptr b 0] ∧ t.get 7 = .lit (.int .i64 xs.length) ∧ t.get 8 = .lit (.int .i64 i)) ?_ ?_ _ _ ?_
  · rintro i t h hlt hc ⟨he, hn0, hn, g0, g1, g7, g8⟩ ih
    obtain ⟨x, hx⟩ : ∃ x, xs[i]? = some x := ⟨_, List.getElem?_eq_getElem hlt⟩
    obtain ⟨c, hc1, hld, hld0⟩ := hv.atE (T := tabOf Tryz.prog NT0) he RSet_z hx
    obtain rfl := RSet_is.1 hc1
    have ld0 : loadA (tabOf Tryz.prog NT0) h 39 (slB v) (slO v + i * 35) = some (.agg (setC x)) := (hld0 39 35 (by kernel_rfl) (by decide) (by decide)).trans rfl
    have hws := wrap_succ hlt (by omega)
    have hfx := hf h x he (List.mem_of_getElem? hx)
    simp only [core, zrA, zrS, zrM, zrL, zrE, reduceCtorEq, zrD, ziE, ziL, ziN, s1, s2, s3, hn, g0, g1, g7, g8, hlt, hc, ld0, hws]
    refine hfx.mono ?_
    rintro _ h2 ⟨e2, rfl⟩
    have E2 := he.trans (e2.mono he.1)
    cases hq : p x with
    | true =>
      have hd := idx_yes hx hq hn0
      simp only [core, zrA, zrS, zrM, zrL, zrE, reduceCtorEq, zrD, ziE, ziL, ziN, s1, s2, s3, hn, g0, g1, g7, g8, hlt, hc, hws, hq]
      first | exact ⟨E2, by rw [hd]⟩
    | false =>
      simp only [core, zrA, zrS, zrM, zrL, zrE, reduceCtorEq, zrD, ziE, ziL, ziN, s1, s2, s3, hn, g0, g1, g7, g8, hlt, hc, hws, hq]
      refine ih _ _ ⟨E2, take_none hx hq hn0, ?_⟩
      simp only [core, zrA, zrS, zrM, zrL, zrE, reduceCtorEq, zrD, ziE, ziL, ziN, hn, g0, g1, g7, g8]
  · rintro t h hc ⟨he, hn0, hn, g0, g1, g7, g8⟩
    rw [List.take_length] at hn0
    have hd := idx_no hn0
    simp only [core, zrA, zrS, zrM, zrL, zrE, reduceCtorEq, zrD, ziE, ziL, ziN, s1, s2, s3, hn, g0, g1, g7, g8, hc]
    first | exact ⟨he, by rw [hd]⟩
  · refine ⟨Ext.refl _ _, fun y hy => by simp at hy, ?_⟩
    simp only [core, zrA, zrS, zrM, zrL, zrE, reduceCtorEq, zrD, ziE, ziL, ziN]
    try ((repeat' apply And.intro) <;> first | rfl | trivial)
theorem knows1_x {H : AH} {b : Nat} {id : List UInt8} (x : SetD) (hb : H.at b = some (.cells [.lit (.string ⟨id.toArray⟩)] 9)) :
    WC Tryz.prog (tabOf Tryz.prog NT0) S0 43 [.agg (setC x), .ptr b 0] H fun r h' => Ext H.n H h' ∧ r = .lit (.bool (x.id == id)) := by
  refine WC_fn Tryz.func43 rfl rfl ?_
  have lb := at_lt hb
  obtain ⟨h0, hh0⟩ : ∃ h0, h0 = H.push (.cells (setC x) 39) := ⟨_, rfl⟩
  have E0 : Ext H.n H h0 := hh0 ▸ (Ext.refl _ _).push _ (Nat.le_refl _)
  have A1 : h0.at H.n = some (.cells (setC x) 39) := hh0 ▸ at_push_n _ _
  have A2 := (E0.2 _ lb).trans hb
  unfold setC at hh0 A1
  have L1 := ld_at (T := tabOf Tryz.prog NT0) A1
  have L2 := ld_at (T := tabOf Tryz.prog NT0) A2
  have l1 := at_lt A1
  have l2 := at_lt A2
  simp only [core, zrA, zrS, zrM, zrL, zrE, reduceCtorEq, zrD, ziE, ziL, ziN, Tryz.ntmps43, setC, ← hh0, L1, L2, l1, l2, pur_seq]
  first | exact ⟨E0, rfl⟩ | exact E0
theorem containsFS_x {F : Nat → Prop} {H : AH} {v : AV} {xs : List SetD} {f b : Nat} {p : SetD → Bool} (hv : IsSl RSet F H v xs) (hl : xs.length ≤ 1000000)
    (hf : ∀ h x, Ext H.n H h → x ∈ xs → WC Tryz.prog (tabOf Tryz.prog NT0) S0 f [.agg (setC x), .ptr b 0] h fun r h' => Ext h.n h h' ∧ r = .lit (.bool (p x))) :
    WC Tryz.prog (tabOf Tryz.prog NT0) S0 42 [v, .fn (.func f) [] [.ptr b 0]] H fun r h' => Ext H.n H h' ∧ r = .lit (.bool (xs.any p)) := by
  refine WC_fn Tryz.func42 rfl rfl ?_
  have s1 := hv.isSl
  have s3 := hv.one
  simp only [core, zrA, zrS, zrM, zrL, zrE, reduceCtorEq, zrD, ziE, ziL, ziN, Tryz.ntmps42, s1, s3]
  refine (indexFS_x hv hl hf).mono ?_
  rintro _ h2 ⟨E2, rfl⟩
  have hd := idx_any (p := p) (xs := xs)
  simp only [core, zrA, zrS, zrM, zrL, zrE, reduceCtorEq, zrD, ziE, ziL, ziN]
  first | exact ⟨E2, by rw [hd]⟩ | (rw [hd]; exact ⟨E2, rfl⟩) | done
/-- What is asked of a root's texts. -/
structure RLen (r : RootD) : Prop where
  o : ∀ x ∈ r.ops, x.length ≤ 1100000
  s : ∀ s ∈ r.live, s.id.length ≤ 1100000 ∧ s.name.length ≤ 1100000
theorem chk_len {r : RootD} (h : chkF r = 0) : r.ops.length ≤ 16 ∧ r.live.length ≤ 16 := by
  unfold chkF at h
  split at h
  · rename_i hh; exact ⟨hh.1, hh.2.1⟩
  · cases h
def knowsF (r : RootD) (id : List UInt8) : Bool := decide (chkF r = 0) && ((r.ops.any fun x => id == x) || r.live.any fun s => s.id == id)
theorem Knows_x {F : Nat → Prop} {H : AH} {vl vo : AV} {r : RootD} {id : List UInt8} (hl : IsSl RSet F H vl r.live) (ho : IsSl RTx F H vo r.ops) (hr : RLen r) :
    WC Tryz.prog (tabOf Tryz.prog NT0) S0 19 [.agg [vl, vo], .lit (.string ⟨id.toArray⟩)] H fun v h' => Ext H.n H h' ∧ v = .lit (.bool (knowsF r id)) := by
  refine WC_fn Tryz.func19 rfl rfl ?_
  have l1 := hl.one
  have l2 := hl.isSl
  have o1 := ho.one
  have o2 := ho.isSl
  obtain ⟨hp, hhp⟩ : ∃ hp, hp = H.push (.cells [vl, vo] 27) := ⟨_, rfl⟩
  obtain ⟨hq, hhq⟩ : ∃ hq, hq = hp.push (.cells [.lit (.string ⟨id.toArray⟩)] 9) := ⟨_, rfl⟩
  have EP : Ext H.n H hp := hhp ▸ (Ext.refl _ _).push _ (Nat.le_refl _)
  have P0 : hp.at H.n = some (.cells [vl, vo] 27) := hhp ▸ at_push_n _ _
  have EQ : Ext hp.n hp hq := hhq ▸ (Ext.refl _ _).push _ (Nat.le_refl _)
  have Q1 : hq.at hp.n = some (.cells [.lit (.string ⟨id.toArray⟩)] 9) := hhq ▸ at_push_n _ _
  have P1 := (EQ.2 _ (at_lt P0)).trans P0
  have LP := ld_at (T := tabOf Tryz.prog NT0) P1
  have lP := at_lt P1
  have lQ := at_lt Q1
  have E0 := EP.trans (EQ.mono EP.1)
  simp only [core, zrA, zrS, zrM, zrL, zrE, reduceCtorEq, zrD, ziE, ziL, ziN, Tryz.ntmps19, l1, l2, o1, o2, ← hhp, ← hhq, LP, lP]
  refine (CheckRoot_x (hl.ext E0 (Nat.le_refl _)) (ho.ext E0 (Nat.le_refl _)) hr.o hr.s).mono ?_
  rintro _ h2 ⟨E2, rfl⟩
  have E02 := E0.trans (E2.mono E0.1)
  have P2 := (E2.2 _ lP).trans P1
  have Q2 := (E2.2 _ lQ).trans Q1
  have LP2 := ld_at (T := tabOf Tryz.prog NT0) P2
  have lP2 := at_lt P2
  have LQ2 := ld_at (T := tabOf Tryz.prog NT0) Q2
  have lQ2 := at_lt Q2
  cases hk : decide (chkF r = 0) with
  | false =>
    have hb : (chkF r != 0) = true := by rw [bne, beq_eq_false_iff_ne.2 (of_decide_eq_false hk)]; rfl
    have hkn : knowsF r id = false := by unfold knowsF; rw [hk]; rfl
    simp only [core, zrA, zrS, zrM, zrL, zrE, reduceCtorEq, zrD, ziE, ziL, ziN, hb, hkn]
    first | exact ⟨E02, rfl⟩ | exact E02
  | true =>
  have hc := of_decide_eq_true hk
  have hb : (chkF r != 0) = false := by rw [hc]; rfl
  obtain ⟨n1, n2⟩ := chk_len hc
  simp only [core, zrA, zrS, zrM, zrL, zrE, reduceCtorEq, zrD, ziE, ziL, ziN, hb, LP2, lP2, LQ2, lQ2, o1, o2]
  refine (containsT_x (ho.ext E02 (Nat.le_refl _)) (by omega)).mono ?_
  rintro _ h3 ⟨E3, rfl⟩
  have E03 := E02.trans (E3.mono E02.1)
  have P3 := (E3.2 _ lP2).trans P2
  have Q3 := (E3.2 _ lQ2).trans Q2
  have LP3 := ld_at (T := tabOf Tryz.prog NT0) P3
  have lP3 := at_lt P3
  have lQ3 := at_lt Q3
  cases hm : r.ops.any (fun x => id == x) with
  | true =>
    have hkn : knowsF r id = true := by unfold knowsF; rw [hk, hm]; rfl
    simp only [core, zrA, zrS, zrM, zrL, zrE, reduceCtorEq, zrD, ziE, ziL, ziN, aundef, hkn]
    first | exact ⟨E03, rfl⟩ | exact E03
  | false =>
  simp only [core, zrA, zrS, zrM, zrL, zrE, reduceCtorEq, zrD, ziE, ziL, ziN, aundef, LP3, lP3, l1, l2]
  refine (containsFS_x (hl.ext E03 (Nat.le_refl _)) (by omega) (fun h x he hx => knows1_x x ((he.2 _ lQ3).trans Q3))).mono ?_
  rintro _ h4 ⟨E4, rfl⟩
  have E04 := E03.trans (E4.mono E03.1)
  have hkn : knowsF r id = r.live.any (fun s => s.id == id) := by unfold knowsF; rw [hk, hm]; simp
  simp only [core, zrA, zrS, zrM, zrL, zrE, reduceCtorEq, zrD, ziE, ziL, ziN, aundef, hkn]
  first | exact ⟨E04, rfl⟩ | exact E04
def zSet : List AV := [.lit (.string ⟨#[]⟩), .lit (.string ⟨#[]⟩), .lit (.int .i64 0), .lit (.int .u8 0), .lit (.int .u8 0), .lit (.int .u8 0), .lit (.int .u8 0), .lit (.int .u8 0), .lit (.int .u8 0), .lit (.int .u8 0), .lit (.int .u8 0), .lit (.int .u8 0), .lit (.int .u8 0), .lit (.int .u8 0), .lit (.int .u8 0), .lit (.int .u8 0), .lit (.int .u8 0), .lit (.int .u8 0), .lit (.int .u8 0), .lit (.int .u8 0), .lit (.int .u8 0), .lit (.int .u8 0), .lit (.int .u8 0), .lit (.int .u8 0), .lit (.int .u8 0), .lit (.int .u8 0), .lit (.int .u8 0), .lit (.int .u8 0), .lit (.int .u8 0), .lit (.int .u8 0), .lit (.int .u8 0), .lit (.int .u8 0), .lit (.int .u8 0), .lit (.int .u8 0), .lit (.int .u8 0)]
theorem zSet_eq : setC set0 = zSet := rfl
def findF (r : RootD) (name : List UInt8) : Option SetD := if chkF r = 0 then r.live.find? fun s => s.name == name else none
theorem find_yes' {r : RootD} {name : List UInt8} {i : Nat} {x : SetD} (hc : chkF r = 0) (hx : r.live[i]? = some x) (hq : (x.name == name) = true) (hf : ∀ y ∈ r.live.take i, (y.name == name) = false) : findF r name = some x := by
  unfold findF
  rw [if_pos hc]
  obtain ⟨hi, rfl⟩ := List.getElem?_eq_some_iff.1 hx
  refine List.find?_eq_some_iff_getElem.2 ⟨hq, i, hi, rfl, fun j hj => ?_⟩
  have := hf r.live[j] (List.mem_take_iff_getElem.2 ⟨j, by omega, rfl⟩)
  rw [this]; rfl
theorem Find_x {F : Nat → Prop} {H : AH} {vl vo : AV} {r : RootD} {name : List UInt8} (hl : IsSl RSet F H vl r.live) (ho : IsSl RTx F H vo r.ops) (hr : RLen r) :
    WC Tryz.prog (tabOf Tryz.prog NT0) S0 14 [.agg [vl, vo], .lit (.string ⟨name.toArray⟩)] H fun v h' => Ext H.n H h' ∧ v = .tup [.agg (setC ((findF r name).getD set0)), .lit (.bool (findF r name).isSome)] := by
  refine WC_fn Tryz.func14 rfl rfl ?_
  have l1 := hl.one
  have l2 := hl.isSl
  have l3 := hl.lenD
  have o1 := ho.one
  have o2 := ho.isSl
  obtain ⟨m, hM⟩ : ∃ m, m = r.live.length := ⟨_, rfl⟩
  rw [← hM] at l3
  obtain ⟨hp, hhp⟩ : ∃ hp, hp = H.push (.cells [vl, vo] 27) := ⟨_, rfl⟩
  obtain ⟨hq, hhq⟩ : ∃ hq, hq = hp.push (.cells zSet 39) := ⟨_, rfl⟩
  have EP : Ext H.n H hp := hhp ▸ (Ext.refl _ _).push _ (Nat.le_refl _)
  have P0 : hp.at H.n = some (.cells [vl, vo] 27) := hhp ▸ at_push_n _ _
  have EQ : Ext hp.n hp hq := hhq ▸ (Ext.refl _ _).push _ (Nat.le_refl _)
  have Q1 : hq.at hp.n = some (.cells zSet 39) := hhq ▸ at_push_n _ _
  have nP : hp.n = H.n + 1 := by rw [hhp, n_push]
  have P1 := (EQ.2 _ (at_lt P0)).trans P0
  have LP := ld_at (T := tabOf Tryz.prog NT0) P1
  have lP := at_lt P1
  have lQ := at_lt Q1
  have E0 := EP.trans (EQ.mono EP.1)
  unfold zSet at hhq Q1
  simp only [core, zrA, zrS, zrM, zrL, zrE, reduceCtorEq, zrD, ziE, ziL, ziN, Tryz.ntmps14, l1, l2, o1, o2, ← hhp, ← hhq, LP, lP]
  refine (CheckRoot_x (hl.ext E0 (Nat.le_refl _)) (ho.ext E0 (Nat.le_refl _)) hr.o hr.s).mono ?_
  rintro _ h2 ⟨E2, rfl⟩
  have E02 := E0.trans (E2.mono E0.1)
  have P2 := (E2.2 _ lP).trans P1
  have Q2 := (E2.2 _ lQ).trans Q1
  have lP2 := at_lt P2
  have lQ2 := at_lt Q2
  cases hk : decide (chkF r = 0) with
  | false =>
    have hb : (chkF r != 0) = true := by rw [bne, beq_eq_false_iff_ne.2 (of_decide_eq_false hk)]; rfl
    have hkn : findF r name = none := by unfold findF; rw [if_neg (of_decide_eq_false hk)]
    obtain ⟨h3, hh3⟩ : ∃ h3, h3 = h2.put hp.n (.cells zSet 39) := ⟨_, rfl⟩
    have E3 : Ext H.n H h3 := hh3 ▸ E02.put _ (by omega)
    have Q3 : h3.at hp.n = some (.cells zSet 39) := hh3 ▸ at_put_same _ lQ2
    have lQ3 := at_lt Q3
    unfold zSet at hh3 Q3
    have LQ3 := ld_at (T := tabOf Tryz.prog NT0) Q3
    simp only [core, zrA, zrS, zrM, zrL, zrE, reduceCtorEq, zrD, ziE, ziL, ziN, hb, hkn, Q2, lQ2, ← hh3, LQ3, lQ3, Option.getD_none, Option.isSome_none, zSet_eq]
    unfold zSet
    first | exact ⟨E3, rfl⟩ | exact E3
  | true =>
  have hc := of_decide_eq_true hk
  have hb : (chkF r != 0) = false := by rw [hc]; rfl
  obtain ⟨n1, n2⟩ := chk_len hc
  have LP2 := ld_at (T := tabOf Tryz.prog NT0) P2
  simp only [core, zrA, zrS, zrM, zrL, zrE, reduceCtorEq, zrD, ziE, ziL, ziN, hb, LP2, lP2, l1, l2, l3]
  refine WB_for m (fun i t h => Ext H.n H h ∧ h.at hp.n = some (.cells zSet 39) ∧ (∀ y ∈ r.live.take i, (y.name == name) = false) ∧ t.n = 26 ∧ t.get 1 = .lit (.string ⟨name.toArray⟩) ∧ t.get 4 = .ptr hp.n 0 ∧ t.get 13 = vl ∧ t.get 14 = .lit (.int .i64 m) ∧ t.get 15 = .lit (.int .i64 i)) ?_ ?_ _ _ ?_
  · rintro i t h hlt hc2 ⟨E, Q, hn0, hn, g1, g4, g13, g14, g15⟩ ih
    have hwi := wrap_succ (n := m) hlt (by omega)
    obtain ⟨x, hx⟩ : ∃ x, r.live[i]? = some x := ⟨_, List.getElem?_eq_getElem (by omega)⟩
    obtain ⟨cc, hc1, hld, hld0⟩ := hl.atE (T := tabOf Tryz.prog NT0) E RSet_z hx
    obtain rfl := RSet_is.1 hc1
    obtain ⟨hA, hhA⟩ : ∃ hA, hA = h.push (.cells (setC x) 39) := ⟨_, rfl⟩
    have eA : Ext h.n h hA := hhA ▸ (Ext.refl _ _).push _ (Nat.le_refl _)
    have XA : hA.at h.n = some (.cells (setC x) 39) := hhA ▸ at_push_n _ _
    have EA := E.trans (eA.mono E.1)
    have QA := (eA.2 _ (at_lt Q)).trans Q
    have lQA := at_lt QA
    have LXA := ld_at (T := tabOf Tryz.prog NT0) XA
    have lXA := at_lt XA
    cases hq : (x.name == name) with
    | true =>
      have hf := find_yes' hc hx hq hn0
      obtain ⟨h3, hh3⟩ : ∃ h3, h3 = hA.put hp.n (.cells (setC x) 39) := ⟨_, rfl⟩
      have E3 : Ext H.n H h3 := hh3 ▸ EA.put _ (by omega)
      have Q3 : h3.at hp.n = some (.cells (setC x) 39) := hh3 ▸ at_put_same _ lQA
      have lQ3 := at_lt Q3
      unfold zSet at QA
      have LQ3 := ld_at (T := tabOf Tryz.prog NT0) Q3
      rw [hf]
      unfold setC at hhA XA hld hld0 LXA LQ3 hh3 ⊢
      simp only [core, zrA, zrS, zrM, zrL, zrE, reduceCtorEq, zrD, ziE, ziL, ziN, hn, g1, g4, g13, g14, g15, hlt, hc2, l1, l2, l3, hld, hld0, ← hhA, LXA, lXA, pur_seq, hq, QA, lQA, ← hh3, LQ3, lQ3, Option.getD_some, Option.isSome_some]
      first | exact ⟨E3, rfl⟩ | exact E3
    | false =>
      unfold setC at hhA XA hld hld0 LXA
      simp only [core, zrA, zrS, zrM, zrL, zrE, reduceCtorEq, zrD, ziE, ziL, ziN, hn, g1, g4, g13, g14, g15, hlt, hc2, l1, l2, l3, hld, hld0, ← hhA, LXA, lXA, pur_seq, hq, hwi]
      refine ih _ _ ⟨EA, QA, take_none (p := fun s : SetD => s.name == name) hx hq hn0, ?_⟩
      simp only [core, zrA, zrS, zrM, zrL, zrE, reduceCtorEq, zrD, ziE, ziL, ziN, hn, g1, g4, g13, g14, g15]
  · rintro t h hc2 ⟨E, Q, hn0, hn, g1, g4, g13, g14, g15⟩
    rw [hM, List.take_length] at hn0
    have hkn : findF r name = none := by
      unfold findF
      rw [if_pos hc]
      exact List.find?_eq_none.2 fun x hx => by rw [hn0 x hx]; decide
    obtain ⟨h3, hh3⟩ : ∃ h3, h3 = h.put hp.n (.cells zSet 39) := ⟨_, rfl⟩
    have lQ := at_lt Q
    have E3 : Ext H.n H h3 := hh3 ▸ E.put _ (by omega)
    have Q3 : h3.at hp.n = some (.cells zSet 39) := hh3 ▸ at_put_same _ lQ
    have lQ3 := at_lt Q3
    unfold zSet at hh3 Q3 Q
    have LQ3 := ld_at (T := tabOf Tryz.prog NT0) Q3
    simp only [core, zrA, zrS, zrM, zrL, zrE, reduceCtorEq, zrD, ziE, ziL, ziN, hn, g1, g4, g13, g14, g15, hc2, hkn, Q, lQ, ← hh3, LQ3, lQ3, Option.getD_none, Option.isSome_none, zSet_eq]
    unfold zSet
    first | exact ⟨E3, rfl⟩ | exact E3
  · refine ⟨E02, Q2, fun y hy => by simp at hy, ?_⟩
    simp only [core, zrA, zrS, zrM, zrL, zrE, reduceCtorEq, zrD, ziE, ziL, ziN]
    try ((repeat' apply And.intro) <;> first | rfl | trivial)
end Go.Proofs.YtjicijhakcmifaaGreatDoor.Ex
end
