/- Part 7 of the proof: Srt, Lay2, Cmp, Hash, Ln, Fast, Lay3, ExcL, Sl2, Ty. -/
import Derived.Shelf.Slices.CompactI
import Derived.Test.YtkgbeihcepociaaDoorProg
import Derived.Shelf.Strconv.Itoa3
import Derived.Test.YtkgbeihcepociaaDoorM6
section

set_option linter.unusedSimpArgs false
set_option linter.unusedVariables false
namespace Go.Proofs.YtkgbeihcepociaaDoor.Ex
open Go Go.RowKit Go.Sort
def srtI (xs : List Int) : List Int := xs.mergeSort fun x y => decide (x ≤ y)
def intsL : List AV → Option (List Int)
  | [] => some []
  | .lit (.int .i64 x) :: r => (intsL r).map (x :: ·)
  | _ :: _ => none
def avI (xs : List Int) : List AV := xs.map fun x => .lit (.int .i64 x)
theorem intsL_eq : ∀ {l : List AV} {xs : List Int}, intsL l = some xs → l = avI xs
  | [], xs, h => by cases h; rfl
  | a :: r, xs, h => by
    unfold intsL at h
    split at h
    · rename_i h0; cases h0
    · rename_i x r' h0
      cases h0
      cases hr : intsL r with
      | none => rw [hr] at h; cases h
      | some ys =>
        rw [hr] at h
        cases h
        rw [intsL_eq hr]
        rfl
    · cases h
theorem intsL_avI : ∀ xs : List Int, intsL (avI xs) = some xs
  | [] => rfl
  | x :: xs => by
    show (intsL (avI xs)).map (x :: ·) = _
    rw [intsL_avI xs]
    rfl
def sSort : List AV → AH → Option (AV × AH)
  | [.sl b 0 n _], h => bif Nat.beq n 0 then some (.tup [], h) else match h.at b with
    | some (.cells l e) => match intsL l with
      | some xs => bif Nat.beq n xs.length && Nat.ble xs.length 4611686018427387903 then some (.tup [], h.put b (.cells (avI (srtI xs)) e)) else none
      | none => none
    | _ => none
  | [.lit (.slice none 0 0)], h => some (.tup [], h)
  | _, _ => none
variable {ρ : Nat → Value} {fl : Nat}
theorem eff_grow {P : Program} {μ : Mu} {h : AH} {w : World} (hr : HR P ρ fl μ h w) (os : Array Obj) : Eff P ρ fl μ h w μ h (grow w os) := by
  have hx : ∀ r, r < w.heap.size → (grow w os).heap[r]? = w.heap[r]? := fun r hr => by
    unfold grow
    simp only
    rw [Array.getElem?_append_left hr]
  have hlt : ∀ r o, w.heap[r]? = some o → r < w.heap.size := fun r o h => (Array.getElem?_eq_some_iff.1 h).1
  have hsz : w.heap.size ≤ (grow w os).heap.size := by unfold grow; simp
  have hg : Grows w (grow w os) := fun r cur e fz h => ⟨cur, e, fz, by rw [hx r (hlt r _ h)]; exact h, rfl⟩
  have hr' : HRL P ρ fl μ h.L w := hr
  show EffL P ρ fl μ h.L w μ h.L (grow w os)
  exact ⟨More.refl μ, Nat.le_refl _, fun b x h1 h2 => (by rw [h1] at h2; cases h2), fun _ _ _ => rfl, fun _ h => h, fun _ _ _ h => h, hg, hsz, fun b r base h1 h2 => (by rw [h1] at h2; cases h2), fun r h _ => hx r h, ⟨rfl, rfl, rfl⟩,
    ⟨Nat.le_trans hr'.floor hsz, hr'.dom, fun b r base ab h1 h2 => let ⟨h3, h4, o, h5, h6⟩ := hr'.obj b r base ab h1 h2; ⟨h3, Nat.lt_of_lt_of_le h4 hsz, o, by rw [hx r h4]; exact h5, h6.mono (More.refl μ) hg⟩, hr'.inj, hr'.pin.more (More.refl μ) hg⟩⟩
theorem one_putRow {α : Type} {enc : α → Value} {w : World} {r : Nat} {e : TypeId} {cur : Array Value} {fz : Nat × Nat} (hg : w.heap[r]? = some (.cells cur e fz)) (n off : Nat) (d : Array α) [Inhabited α] :
    One r w (putRow enc (Sort.ahead w n) r off d) ∧ (putRow enc (Sort.ahead w n) r off d).heap[r]? = some (.cells (putCells enc off d cur) e fz) := by
  have hat : (putRow enc (Sort.ahead w n) r off d).heap[r]? = some (.cells (putCells enc off d cur) e fz) := by
    unfold putRow mapBlock Sort.ahead
    simp only [Array.getElem?_modify, if_true, hg, Option.map_some, onCells]
  have hot : ∀ k, k ≠ r → (putRow enc (Sort.ahead w n) r off d).heap[k]? = w.heap[k]? := fun k hk => by
    unfold putRow mapBlock Sort.ahead
    simp only [Array.getElem?_modify]
    rw [if_neg (fun hh => hk hh.symm)]
  refine ⟨⟨by unfold putRow mapBlock Sort.ahead; simp, hot, fun k cur' e' fz' hk => ?_, ⟨rfl, rfl, rfl⟩⟩, hat⟩
  by_cases hkr : k = r
  · subst hkr
    rw [hg] at hk
    obtain ⟨rfl, rfl, rfl⟩ := Obj.cells.inj (Option.some.inj hk)
    exact ⟨_, _, _, hat, by unfold putCells; simp⟩
  · exact ⟨cur', e', fz', by rw [hot k hkr]; exact hk, rfl⟩
theorem sSort_ok {μ : Mu} {h h' : AH} {w : World} {v : AV} {args : List AV} {args' : List Value} (hg : sSort args h = some (v, h')) (hr : HR Tryd.prog ρ fl μ h w) (ha : rels ρ μ w args args') :
    Calls Tryd.prog 36 args'.toArray w fun e w' => ∃ μ' v', e = .returned v' ∧ Eff Tryd.prog ρ fl μ h w μ' h' w' ∧ rel ρ μ' w' v v' := by
  have hnone : ∀ p c, Calls Tryd.prog 36 #[.slice p 0 c] w fun e w' => e = .returned (.tuple #[]) ∧ w' = w := fun p c => Any.slices_Sort_int_none Tryd.lays189 p c w
  have hret : ∀ w', rel ρ μ w' (.tup []) (.tuple #[]) := fun w' => by unfold rel; exact ⟨[], rfl, rels_nil⟩
  unfold sSort at hg
  split at hg
  · rename_i b n c
    obtain ⟨v1, vs, rfl, r1, r2⟩ := rels_cons_inv ha
    obtain rfl := rels_nil_inv r2
    cases hn : Nat.beq n 0 with
    | true =>
      rw [hn] at hg
      cases hg
      have h0 : n = 0 := Nat.eq_of_beq_eq_true hn
      subst h0
      have hv : ∃ p c', v1 = .slice p 0 c' := by
        rcases rel_sl_inv r1 with ⟨r, base, o, c', _, rfl, _⟩ | hh
        · exact ⟨_, _, rfl⟩
        · obtain ⟨h1, h2, p, rfl⟩ := hh
          exact ⟨_, _, rfl⟩
      obtain ⟨p, c', rfl⟩ := hv
      refine (hnone p c').mono fun e w' hy => ?_
      obtain ⟨rfl, rfl⟩ := hy
      exact ⟨μ, _, rfl, Eff.refl hr, hret _⟩
    | false =>
    rw [hn] at hg
    simp only [cond_false] at hg
    split at hg
    case h_2 => cases hg
    rename_i l e hb
    split at hg
    case h_2 => cases hg
    rename_i xs hxs
    cases hcc : (Nat.beq n xs.length && Nat.ble xs.length 4611686018427387903) with
    | false => rw [hcc] at hg; cases hg
    | true =>
    rw [hcc] at hg
    cases hg
    simp only [Bool.and_eq_true] at hcc
    have hnx : n = xs.length := Nat.eq_of_beq_eq_true hcc.1
    have hle : xs.length ≤ 4611686018427387903 := Nat.le_of_ble_eq_true hcc.2
    have hn0 : n ≠ 0 := fun hh => by subst hh; cases hn
    obtain rfl := intsL_eq hxs
    subst hnx
    rcases rel_sl_inv r1 with ⟨r, base, o, c', m1, rfl, hco, hcap⟩ | hh
    case inr => exact absurd hh.1 hn0
    have hc0 := (capRel_le hcap).1
    have ho : o = base := by rcases hco with h | h <;> omega
    subst ho
    have hgb : getB h b = some (avI xs, e) := by unfold getB; rw [hb]
    obtain ⟨cur, k1, k2, k3⟩ := getB_sound hr m1 hgb
    have hgx : ∀ (ys : List Int) (j : Nat) (hj : j < ys.length), (avI ys)[j]? = some (.lit (.int .i64 ys[j])) := fun ys j hj => by
      unfold avI
      rw [List.getElem?_map, List.getElem?_eq_getElem hj]
      rfl
    have hlA : (avI xs).length = xs.length := by unfold avI; simp
    have hH : Holds (Value.int .i64) w r o xs.toArray := fun j hj => by
      have hj' : j < xs.length := by simpa using hj
      obtain ⟨v0, q1, q2⟩ := k2.2 j _ (hgx xs j hj')
      refine ⟨?_, frozen_in k1⟩
      rw [cell_in k1, q1, rel_lit_inv q2]
      simp [hj']
    have hsl : (srtI xs).length = xs.length := by unfold srtI; simp
    refine (Any.slices_Sort_int Tryd.lays189 r o c' xs w hH (Array.getElem?_eq_some_iff.1 k1).1 (by omega)).mono fun e' w' hy => ?_
    obtain ⟨rfl, n', os, rfl⟩ := hy
    obtain ⟨hone, hat⟩ := one_putRow (enc := Value.int .i64) k1 n' o (srtI xs).toArray
    have hef : Eff Tryd.prog ρ fl μ h w μ (h.put b (.cells (avI (srtI xs)) e)) (putRow (Value.int .i64) (Sort.ahead w n') r o (srtI xs).toArray) := by
      refine Eff.upd hr m1 hb rfl hone hat ⟨_, rfl, ⟨?_, fun i x hi => ?_⟩, fun hbg => ?_⟩
      · have := k2.1
        unfold putCells avI
        rw [hlA] at this
        simpa [hsl] using this
      · have hi' : i < (srtI xs).length := by
          have := (List.getElem?_eq_some_iff.1 hi).1
          unfold avI at this
          simpa using this
        rw [hgx _ i hi'] at hi
        cases hi
        refine ⟨.int .i64 (srtI xs)[i], ?_, rel_lit rfl⟩
        have hsz := k2.1
        rw [hlA] at hsz
        unfold putCells
        rw [Array.getElem?_mapIdx, Array.getElem?_eq_getElem (by omega)]
        simp only [Option.map_some, List.size_toArray]
        rw [if_pos ⟨Nat.le_add_right _ _, by omega⟩, show o + i - o = i by omega]
        simp [hi']
      · obtain ⟨b1, b2⟩ := k3 hbg
        refine ⟨b1, ?_⟩
        rw [hlA] at b2
        unfold putCells avI
        simpa [hsl] using b2
    refine ⟨μ, _, rfl, Eff.trans hr hef (eff_grow hef.hr os), hret _⟩
  · cases hg
    obtain ⟨v1, vs, rfl, r1, r2⟩ := rels_cons_inv ha
    obtain rfl := rels_nil_inv r2
    obtain rfl := rel_lit_inv r1
    refine (hnone none 0).mono fun e w' hy => ?_
    obtain ⟨rfl, rfl⟩ := hy
    exact ⟨μ, _, rfl, Eff.refl hr, hret _⟩
  · cases hg
end Go.Proofs.YtkgbeihcepociaaDoor.Ex
end

section

namespace Go.Proofs
open Go.Shelf
def Tryd.lays20_ren : Go.Shelf.Ren := ⟨fun | 20 => 38 | n => n, fun | 22 => 31 | 3 => 3 | 4 => 4 | 0 => 0 | n => n, fun | n => n⟩
theorem Tryd.lays20 : Go.Proofs.Lays2.n20 Tryd.prog Tryd.lays20_ren := {
  mixed := by kernel_rfl,
  f20 := Tryd.func38.trans (congrArg some (by kernel_rfl)),
  t0 := Tryd.underlying0,
  a0 := Tryd.isAgg0,
  z0 := Tryd.sizeOf0,
  v0 := Tryd.zeroValue0,
  t3 := Tryd.underlying3,
  a3 := Tryd.isAgg3,
  z3 := Tryd.sizeOf3,
  v3 := Tryd.zeroValue3,
  t4 := Tryd.underlying4,
  a4 := Tryd.isAgg4,
  z4 := Tryd.sizeOf4,
  v4 := Tryd.zeroValue4,
  t22 := Tryd.underlying31,
  a22 := Tryd.isAgg31,
  z22 := Tryd.sizeOf31,
  v22 := Tryd.zeroValue31,
  i3 := by kernel_rfl }
end Go.Proofs
end

section

set_option linter.unusedSimpArgs false
set_option linter.unusedVariables false
namespace Go.Proofs.YtkgbeihcepociaaDoor.Ex
open Go Go.RowKit Go.Lib Go.Sort
def cmpI (xs : List Int) : List Int := Lib.compact xs
def cmpO (xs : List Int) : List Int := cmpI xs ++ List.replicate (xs.length - (cmpI xs).length) 0
theorem cmpI_le (xs : List Int) : (cmpI xs).length ≤ xs.length := by
  unfold cmpI Lib.compact Lib.compactUpTo
  rw [List.length_map]
  have := List.length_filter_le (Lib.keeps xs.toArray) (List.range xs.length)
  rw [List.length_range] at this
  exact this
theorem cmpO_len (xs : List Int) : (cmpO xs).length = xs.length := by
  have := cmpI_le xs
  unfold cmpO
  rw [List.length_append, List.length_replicate]
  omega
def sCompact : List AV → AH → Option (AV × AH)
  | [.sl b 0 n cap], h => bif Nat.beq n 0 then some (.sl b 0 n cap, h) else match h.at b with
    | some (.cells l e) => match intsL l with
      | some xs => bif Nat.beq n xs.length && Nat.ble xs.length 4611686018427387903 then some (.sl b 0 (cmpI xs).length cap, h.put b (.cells (avI (cmpO xs)) e)) else none
      | none => none
    | _ => none
  | [.lit (.slice none 0 0)], h => some (.lit (.slice none 0 0), h)
  | _, _ => none
variable {ρ : Nat → Value} {fl : Nat}
theorem sCompact_ok {μ : Mu} {h h' : AH} {w : World} {v : AV} {args : List AV} {args' : List Value} (hg : sCompact args h = some (v, h')) (hr : HR Tryd.prog ρ fl μ h w) (ha : rels ρ μ w args args') :
    Calls Tryd.prog 38 args'.toArray w fun e w' => ∃ μ' v', e = .returned v' ∧ Eff Tryd.prog ρ fl μ h w μ' h' w' ∧ rel ρ μ' w' v v' := by
  have hnone : ∀ p c, Calls Tryd.prog 38 #[.slice p 0 c] w fun e w' => e = .returned (.slice p 0 c) ∧ w' = w := fun p c => Any.slices_Compact_int_empty Tryd.lays20 p c w
  unfold sCompact at hg
  split at hg
  · rename_i b n c
    obtain ⟨v1, vs, rfl, r1, r2⟩ := rels_cons_inv ha
    obtain rfl := rels_nil_inv r2
    cases hn : Nat.beq n 0 with
    | true =>
      rw [hn] at hg
      cases hg
      have h0 : n = 0 := Nat.eq_of_beq_eq_true hn
      subst h0
      have hv : ∃ p c', v1 = .slice p 0 c' := by
        rcases rel_sl_inv r1 with ⟨r, base, o, c', _, rfl, _⟩ | hh
        · exact ⟨_, _, rfl⟩
        · obtain ⟨h1, h2, p, rfl⟩ := hh
          exact ⟨_, _, rfl⟩
      obtain ⟨p, c', rfl⟩ := hv
      refine (hnone p c').mono fun e w' hy => ?_
      obtain ⟨rfl, rfl⟩ := hy
      exact ⟨μ, _, rfl, Eff.refl hr, r1⟩
    | false =>
    rw [hn] at hg
    simp only [cond_false] at hg
    split at hg
    case h_2 => cases hg
    rename_i l e hb
    split at hg
    case h_2 => cases hg
    rename_i xs hxs
    cases hcc : (Nat.beq n xs.length && Nat.ble xs.length 4611686018427387903) with
    | false => rw [hcc] at hg; cases hg
    | true =>
    rw [hcc] at hg
    cases hg
    simp only [Bool.and_eq_true] at hcc
    have hnx : n = xs.length := Nat.eq_of_beq_eq_true hcc.1
    have hle : xs.length ≤ 4611686018427387903 := Nat.le_of_ble_eq_true hcc.2
    have hn0 : n ≠ 0 := fun hh => by subst hh; cases hn
    obtain rfl := intsL_eq hxs
    subst hnx
    rcases rel_sl_inv r1 with ⟨r, base, o, c', m1, rfl, hco, hcap⟩ | hh
    case inr => exact absurd hh.1 hn0
    have hc0 := (capRel_le hcap).1
    have ho : o = base := by rcases hco with h | h <;> omega
    subst ho
    have hgb : getB h b = some (avI xs, e) := by unfold getB; rw [hb]
    obtain ⟨cur, k1, k2, k3⟩ := getB_sound hr m1 hgb
    have hgx : ∀ (ys : List Int) (j : Nat) (hj : j < ys.length), (avI ys)[j]? = some (.lit (.int .i64 ys[j])) := fun ys j hj => by
      unfold avI
      rw [List.getElem?_map, List.getElem?_eq_getElem hj]
      rfl
    have hlA : (avI xs).length = xs.length := by unfold avI; simp
    have hH : Holds (Value.int .i64) w r o xs.toArray := fun j hj => by
      have hj' : j < xs.length := by simpa using hj
      obtain ⟨v0, q1, q2⟩ := k2.2 j _ (hgx xs j hj')
      refine ⟨?_, frozen_in k1⟩
      rw [cell_in k1, q1, rel_lit_inv q2]
      simp [hj']
    have hsl : (cmpO xs).length = xs.length := cmpO_len xs
    refine (Any.slices_Compact_int Tryd.lays20 r o c' xs w hH (by omega) hc0).mono fun e' w' hy => ?_
    obtain ⟨rfl, n', rfl⟩ := hy
    obtain ⟨hone, hat⟩ := one_putRow (enc := Value.int .i64) k1 n' o (cmpO xs).toArray
    have hef : Eff Tryd.prog ρ fl μ h w μ (h.put b (.cells (avI (cmpO xs)) e)) (putRow (Value.int .i64) (Sort.ahead w n') r o (cmpO xs).toArray) := by
      refine Eff.upd hr m1 hb rfl hone hat ⟨_, rfl, ⟨?_, fun i x hi => ?_⟩, fun hbg => ?_⟩
      · have := k2.1
        unfold putCells avI
        rw [hlA] at this
        simpa [hsl] using this
      · have hi' : i < (cmpO xs).length := by
          have := (List.getElem?_eq_some_iff.1 hi).1
          unfold avI at this
          simpa using this
        rw [hgx _ i hi'] at hi
        cases hi
        refine ⟨.int .i64 (cmpO xs)[i], ?_, rel_lit rfl⟩
        have hsz := k2.1
        rw [hlA] at hsz
        unfold putCells
        rw [Array.getElem?_mapIdx, Array.getElem?_eq_getElem (by omega)]
        simp only [Option.map_some, List.size_toArray]
        rw [if_pos ⟨Nat.le_add_right _ _, by omega⟩, show o + i - o = i by omega]
        simp [hi']
      · obtain ⟨b1, b2⟩ := k3 hbg
        refine ⟨b1, ?_⟩
        rw [hlA] at b2
        unfold putCells avI
        simpa [hsl] using b2
    have hgr : Grows w (putRow (Value.int .i64) (Sort.ahead w n') r o (cmpO xs).toArray) := hef.grows
    have hcl := cmpI_le xs
    refine ⟨μ, _, rfl, hef, ?_⟩
    have hcap2 : capRel w r (o + 0) (cmpI xs).length c c' := by
      cases c with
      | kn k => exact ⟨hcap.1, Nat.le_trans hcl hcap.2.1, hcap.2.2⟩
      | un z => exact ⟨Nat.le_trans hcl hcap.1, hcap.2.1, hcap.2.2.1, hcap.2.2.2⟩
    unfold rel
    exact .inl ⟨r, o, o, c', m1, rfl, .inr (by omega), hcap2.mono hgr⟩
  · cases hg
    obtain ⟨v1, vs, rfl, r1, r2⟩ := rels_cons_inv ha
    obtain rfl := rels_nil_inv r2
    have r1' := r1
    obtain rfl := rel_lit_inv r1
    refine (hnone none 0).mono fun e w' hy => ?_
    obtain ⟨rfl, rfl⟩ := hy
    exact ⟨μ, _, rfl, Eff.refl hr, r1'⟩
  · cases hg
end Go.Proofs.YtkgbeihcepociaaDoor.Ex
end

section

set_option linter.unusedSimpArgs false
set_option linter.unusedVariables false
set_option maxRecDepth 10000
set_option maxHeartbeats 4000000
namespace Go.Proofs.YtkgbeihcepociaaDoor.Ex
open Go
abbrev I3 := Int × Int × Int
/-- One round of MIX. -/
def mixR (s0 s1 s2 : Int) (x : I3) : I3 :=
  let a := xorI .u32 (IntKind.u32.wrap (IntKind.u32.wrap (x.1 - x.2.1) - x.2.2)) (shrI .u32 x.2.2 s0)
  let b := xorI .u32 (IntKind.u32.wrap (IntKind.u32.wrap (x.2.1 - x.2.2) - a)) (shlI .u32 a s1)
  let c := xorI .u32 (IntKind.u32.wrap (IntKind.u32.wrap (x.2.2 - a) - b)) (shrI .u32 b s2)
  (a, b, c)
def mixN : Nat → I3 → I3
  | 0, x => x
  | 1, x => mixR 13 8 13 x
  | 2, x => mixR 12 16 5 (mixR 13 8 13 x)
  | _, x => mixR 3 10 15 (mixR 12 16 5 (mixR 13 8 13 x))
def mix3 (x : I3) : I3 := mixN 3 x
def u3 (a : Int) : AV := .lit (.int .u32 a)
def mixTab : AV := .agg [.lit (.int .i64 13), .lit (.int .i64 8), .lit (.int .i64 13), .lit (.int .i64 12), .lit (.int .i64 16), .lit (.int .i64 5), .lit (.int .i64 3), .lit (.int .i64 10), .lit (.int .i64 15)]
theorem mixV0 : pur Tryd.prog (Instr.index 143 (.agg #[.int .i64 13, .int .i64 8, .int .i64 13, .int .i64 12, .int .i64 16, .int .i64 5, .int .i64 3, .int .i64 10, .int .i64 15]) (.int .i64 0)) = some (.ok (.agg #[.int .i64 13, .int .i64 8, .int .i64 13])) := by kernel_rfl
theorem mixV1 : pur Tryd.prog (Instr.index 143 (.agg #[.int .i64 13, .int .i64 8, .int .i64 13, .int .i64 12, .int .i64 16, .int .i64 5, .int .i64 3, .int .i64 10, .int .i64 15]) (.int .i64 1)) = some (.ok (.agg #[.int .i64 12, .int .i64 16, .int .i64 5])) := by kernel_rfl
theorem mixV2 : pur Tryd.prog (Instr.index 143 (.agg #[.int .i64 13, .int .i64 8, .int .i64 13, .int .i64 12, .int .i64 16, .int .i64 5, .int .i64 3, .int .i64 10, .int .i64 15]) (.int .i64 2)) = some (.ok (.agg #[.int .i64 3, .int .i64 10, .int .i64 15])) := by kernel_rfl
section
variable {t : TM} {h : AH} {d : Option Tmp} {ty : TypeId} {ps : String} {af : Array Edge} {g : Option (Nat × Bool)}
theorem mixTab0 {i j : Nat} (hx : t.get i = mixTab) (hy : t.get j = .lit (.int .i64 0)) : aop Tryd.prog (tabOf Tryd.prog NT0) ⟨d, .index 143 (.tmp i) (.tmp j), ty, ps, af, g⟩ t h = some (.val (.agg [.lit (.int .i64 13), .lit (.int .i64 8), .lit (.int .i64 13)]), h) :=
  a_index_lit (by rw [hx]; rfl) (by rw [hy]; rfl) mixV0 rfl
theorem mixTab1 {i j : Nat} (hx : t.get i = mixTab) (hy : t.get j = .lit (.int .i64 1)) : aop Tryd.prog (tabOf Tryd.prog NT0) ⟨d, .index 143 (.tmp i) (.tmp j), ty, ps, af, g⟩ t h = some (.val (.agg [.lit (.int .i64 12), .lit (.int .i64 16), .lit (.int .i64 5)]), h) :=
  a_index_lit (by rw [hx]; rfl) (by rw [hy]; rfl) mixV1 rfl
theorem mixTab2 {i j : Nat} (hx : t.get i = mixTab) (hy : t.get j = .lit (.int .i64 2)) : aop Tryd.prog (tabOf Tryd.prog NT0) ⟨d, .index 143 (.tmp i) (.tmp j), ty, ps, af, g⟩ t h = some (.val (.agg [.lit (.int .i64 3), .lit (.int .i64 10), .lit (.int .i64 15)]), h) :=
  a_index_lit (by rw [hx]; rfl) (by rw [hy]; rfl) mixV2 rfl
end
theorem trio_x {H : AH} {p : Nat} {x : I3} (hp : H.at p = some (.cells [.lit (.int .u32 x.1), .lit (.int .u32 x.2.1), .lit (.int .u32 x.2.2)] 140)) :
    WC Tryd.prog (tabOf Tryd.prog NT0) S00 95 [.ptr p 0] H fun r h' => h'.at p = some (.cells [.lit (.int .u32 (mix3 x).1), .lit (.int .u32 (mix3 x).2.1), .lit (.int .u32 (mix3 x).2.2)] 140) ∧ H.n ≤ h'.n ∧ ∀ q, q < H.n → q ≠ p → h'.at q = H.at q := by
  refine WC_fn Tryd.func95 rfl rfl ?_
  have hlt := at_lt hp
  have L0 := fun e off => ld_at (T := tabOf Tryd.prog NT0) hp e off
  simp only [core, Nat.reduceAdd, Nat.reduceSub, Nat.reduceMul, Nat.reduceLT, Nat.reduceEqDiff, reduceCtorEq, Nat.reduceLeDiff, Int.reduceLE, Int.reduceLT, Int.reduceToNat, Tryd.ntmps95]
  rw [WB_regionD [0, 1, 2, 3, 4, 5, 6, 7, 8, 9, 10, 11, 12, 13, 14] 26958519655973595170767904528538414010378582634470141901892646633472 (by kernel_rfl)]
  repeat ((with_reducible refine WDM_cons ?_; simp only [dw1]; try simp only [dw2, Nat.reduceAdd, Nat.reduceMul, Nat.reduceShiftRight, Nat.reduceMod, Nat.reduceEqDiff]); simp only [core, Nat.reduceAdd, Nat.reduceSub, Nat.reduceMul, Nat.reduceLT, Nat.reduceEqDiff, reduceCtorEq, Nat.reduceLeDiff, Int.reduceLE, Int.reduceLT, Int.reduceToNat, cored, L0])
  refine WB_for 3 (fun i t h => Ext H.n H h ∧ t.n = 63 ∧ t.get 0 = .ptr p 0 ∧ t.get 2 = .lit (.int .u32 (mixN i x).1) ∧ t.get 3 = .lit (.int .u32 (mixN i x).2.1) ∧ t.get 4 = .lit (.int .u32 (mixN i x).2.2) ∧ t.get 22 = mixTab ∧ t.get 23 = .lit (.int .i64 i)) ?_ ?_ _ _ ?_
  · rintro i t h hi hc ⟨he, hn, g0, g2, g3, g4, g22, g23⟩ ih
    have hi3 : i = 0 ∨ i = 1 ∨ i = 2 := by omega
    rcases hi3 with rfl | rfl | rfl
    · have g23 : t.get 23 = .lit (.int .i64 0) := g23
      have hw : IntKind.i64.wrap ((0 : Int) + 1) = ((0 + 1 : Nat) : Int) := by decide
      have hc : ((0 : Int) < 3) = True := by decide
      simp only [core, Nat.reduceAdd, Nat.reduceSub, Nat.reduceMul, Nat.reduceLT, Nat.reduceEqDiff, reduceCtorEq, Nat.reduceLeDiff, Int.reduceLE, Int.reduceLT, Int.reduceToNat, hn, g0, g2, g3, g4, g22, g23, hc, hw, mixTab0]
      refine ih _ _ ?_
      simp only [core, Nat.reduceAdd, Nat.reduceSub, Nat.reduceMul, Nat.reduceLT, Nat.reduceEqDiff, reduceCtorEq, Nat.reduceLeDiff, Int.reduceLE, Int.reduceLT, Int.reduceToNat, hn, g0, g2, g3, g4, g22, g23]
      refine ⟨he.push _ he.1, ?_⟩
      (repeat' apply And.intro) <;> first | rfl | trivial
    · have g23 : t.get 23 = .lit (.int .i64 1) := g23
      have hw : IntKind.i64.wrap ((1 : Int) + 1) = ((1 + 1 : Nat) : Int) := by decide
      have hc : ((1 : Int) < 3) = True := by decide
      simp only [core, Nat.reduceAdd, Nat.reduceSub, Nat.reduceMul, Nat.reduceLT, Nat.reduceEqDiff, reduceCtorEq, Nat.reduceLeDiff, Int.reduceLE, Int.reduceLT, Int.reduceToNat, hn, g0, g2, g3, g4, g22, g23, hc, hw, mixTab1]
      refine ih _ _ ?_
      simp only [core, Nat.reduceAdd, Nat.reduceSub, Nat.reduceMul, Nat.reduceLT, Nat.reduceEqDiff, reduceCtorEq, Nat.reduceLeDiff, Int.reduceLE, Int.reduceLT, Int.reduceToNat, hn, g0, g2, g3, g4, g22, g23]
      refine ⟨he.push _ he.1, ?_⟩
      (repeat' apply And.intro) <;> first | rfl | trivial
    · have g23 : t.get 23 = .lit (.int .i64 2) := g23
      have hw : IntKind.i64.wrap ((2 : Int) + 1) = ((2 + 1 : Nat) : Int) := by decide
      have hc : ((2 : Int) < 3) = True := by decide
      simp only [core, Nat.reduceAdd, Nat.reduceSub, Nat.reduceMul, Nat.reduceLT, Nat.reduceEqDiff, reduceCtorEq, Nat.reduceLeDiff, Int.reduceLE, Int.reduceLT, Int.reduceToNat, hn, g0, g2, g3, g4, g22, g23, hc, hw, mixTab2]
      refine ih _ _ ?_
      simp only [core, Nat.reduceAdd, Nat.reduceSub, Nat.reduceMul, Nat.reduceLT, Nat.reduceEqDiff, reduceCtorEq, Nat.reduceLeDiff, Int.reduceLE, Int.reduceLT, Int.reduceToNat, hn, g0, g2, g3, g4, g22, g23]
      refine ⟨he.push _ he.1, ?_⟩
      (repeat' apply And.intro) <;> first | rfl | trivial
  · rintro t h hc ⟨he, hn, g0, g2, g3, g4, g22, g23⟩
    have g23 : t.get 23 = .lit (.int .i64 3) := g23
    have hc : ((3 : Int) < 3) = False := by decide
    have hp2 : h.at p = some (.cells [.lit (.int .u32 x.1), .lit (.int .u32 x.2.1), .lit (.int .u32 x.2.2)] 140) := (he.2 p hlt).trans hp
    have hlt2 : p < h.n := at_lt hp2
    simp only [core, Nat.reduceAdd, Nat.reduceSub, Nat.reduceMul, Nat.reduceLT, Nat.reduceEqDiff, reduceCtorEq, Nat.reduceLeDiff, Int.reduceLE, Int.reduceLT, Int.reduceToNat, hn, g0, g2, g3, g4, g22, g23, hc, hp2]
    refine ⟨.inl trivial, at_put_same _ hlt2, he.1, fun q hq hqp => ?_⟩
    rw [at_put_ne _ (Ne.symm hqp)]
    exact he.2 q hq
  · simp only [core, Nat.reduceAdd, Nat.reduceSub, Nat.reduceMul, Nat.reduceLT, Nat.reduceEqDiff, reduceCtorEq, Nat.reduceLeDiff, Int.reduceLE, Int.reduceLT, Int.reduceToNat]
    refine ⟨Ext.refl _ _, ?_⟩
    (repeat' apply And.intro) <;> first | rfl | trivial
/-- A number in a block of its own. -/
def Bx (h : AH) (p : Nat) (a : Int) : Prop := h.at p = some (.cells [.lit (.int .u32 a)] 27)
theorem mix_x {H : AH} {p q r : Nat} {x : I3} (hp : Bx H p x.1) (hq : Bx H q x.2.1) (hr : Bx H r x.2.2) (pq : p ≠ q) (pr : p ≠ r) (qr : q ≠ r) :
    WC Tryd.prog (tabOf Tryd.prog NT0) S00 89 [.ptr p 0, .ptr q 0, .ptr r 0] H fun _ h' => Bx h' p (mix3 x).1 ∧ Bx h' q (mix3 x).2.1 ∧ Bx h' r (mix3 x).2.2 ∧ H.n ≤ h'.n ∧ ∀ b, b < H.n → b ≠ p → b ≠ q → b ≠ r → h'.at b = H.at b := by
  refine WC_fn Tryd.func89 rfl rfl ?_
  have lp := at_lt hp
  have lq := at_lt hq
  have lr := at_lt hr
  have Lp := fun e off => ld_at (T := tabOf Tryd.prog NT0) hp e off
  have Lq := fun e off => ld_at (T := tabOf Tryd.prog NT0) hq e off
  have Lr := fun e off => ld_at (T := tabOf Tryd.prog NT0) hr e off
  simp only [core, Nat.reduceAdd, Nat.reduceSub, Nat.reduceMul, Nat.reduceLT, Nat.reduceEqDiff, reduceCtorEq, Nat.reduceLeDiff, Int.reduceLE, Int.reduceLT, Int.reduceToNat, Tryd.ntmps89]
  rw [WB_regionD [0, 1, 2, 3, 4, 5, 6, 7, 8, 9, 10, 11] 11144928247238770519951308239364144742010880 (by kernel_rfl)]
  repeat ((with_reducible refine WDM_cons ?_; simp only [dw1]; try simp only [dw2, Nat.reduceAdd, Nat.reduceMul, Nat.reduceShiftRight, Nat.reduceMod, Nat.reduceEqDiff]); simp only [core, Nat.reduceAdd, Nat.reduceSub, Nat.reduceMul, Nat.reduceLT, Nat.reduceEqDiff, reduceCtorEq, Nat.reduceLeDiff, Int.reduceLE, Int.reduceLT, Int.reduceToNat, cored, Lp, Lq, Lr, lp, lq, lr])
  refine (trio_x (x := x) (at_push_n H _)).mono ?_
  rintro _ h1 ⟨h2, h3, h4⟩
  rw [n_push] at h3 h4
  have e1 : ∀ b, b < H.n → h1.at b = H.at b := fun b hb => (h4 b (by omega) (by omega)).trans (at_push_lt _ hb)
  have l0 : H.n < h1.n := by omega
  have lp1 : p < h1.n := by omega
  have lq1 : q < h1.n := by omega
  have lr1 : r < h1.n := by omega
  have L0 := fun e off => ld_at (T := tabOf Tryd.prog NT0) h2 e off
  have P1 := (e1 p lp).trans hp
  have Q1 := (e1 q lq).trans hq
  have R1 := (e1 r lr).trans hr
  simp only [core, Nat.reduceAdd, Nat.reduceSub, Nat.reduceMul, Nat.reduceLT, Nat.reduceEqDiff, reduceCtorEq, Nat.reduceLeDiff, Int.reduceLE, Int.reduceLT, Int.reduceToNat, L0, P1, Q1, R1, pq, pr, qr, lp1, lq1, lr1]
  refine ⟨.inl trivial, ?_, ?_, ?_, by omega, fun b hb b1 b2 b3 => ?_⟩
  · unfold Bx
    rw [at_put_ne _ (Ne.symm pr), at_put_ne _ (Ne.symm pq), at_put_same _ lp1]
  · unfold Bx
    rw [at_put_ne _ (Ne.symm qr), at_put_same _ (by rw [n_put]; exact lq1)]
  · unfold Bx
    rw [at_put_same _ (by rw [n_put, n_put]; exact lr1)]
  · rw [at_put_ne _ (Ne.symm b3), at_put_ne _ (Ne.symm b2), at_put_ne _ (Ne.symm b1)]
    exact e1 b hb
theorem Bx.ld {h : AH} {p : Nat} {a : Int} (hb : Bx h p a) (e off : Nat) : loadA (tabOf Tryd.prog NT0) h e p off = ldL (tabOf Tryd.prog NT0) e [.lit (.int .u32 a)] off := ld_at hb e off
theorem Bx.new {h : AH} {a : Int} {p : Nat} (hp : p = h.n) : Bx (h.push (.cells [.lit (.int .u32 a)] 27)) p a := by subst hp; exact at_push_n h _
theorem Bx.old {h : AH} {a : Int} {p : Nat} {x : AB} (hb : Bx h p a) : Bx (h.push x) p a := (at_push_lt _ (at_lt hb)).trans hb
theorem Bx.put {h : AH} {a b : Int} {p : Nat} (hb : Bx h p a) : Bx (h.put p (.cells [.lit (.int .u32 b)] 27)) p b := at_put_same _ (at_lt hb)
theorem Bx.keep {h : AH} {a : Int} {p q : Nat} {x : AB} (hb : Bx h p a) (hne : q ≠ p) : Bx (h.put q x) p a := (at_put_ne _ hne).trans hb
theorem Bx.lt {h : AH} {a : Int} {p : Nat} (hb : Bx h p a) : p < h.n := at_lt hb
theorem Bx.after {h h' : AH} {a : Int} {b p q r : Nat} (hb : Bx h b a) (hk : ∀ c, c < h.n → c ≠ p → c ≠ q → c ≠ r → h'.at c = h.at c) (h1 : b ≠ p) (h2 : b ≠ q) (h3 : b ≠ r) : Bx h' b a := (hk b hb.lt h1 h2 h3).trans hb
def hash2F (a b : Int) : Int :=
  let t := mix3 (a, b, xorI .u32 (xorI .u32 1315423911 a) b)
  let u := mix3 (231232, t.1, t.2.2)
  (mix3 (t.2.1, 1232, u.2.2)).2.2
def hash3F (a b c : Int) : Int :=
  let t := mix3 (a, b, xorI .u32 (xorI .u32 (xorI .u32 1315423911 a) b) c)
  let u := mix3 (c, 231232, t.2.2)
  let v := mix3 (1232, t.1, u.2.2)
  let w := mix3 (t.2.1, u.2.1, v.2.2)
  (mix3 (v.1, u.1, w.2.2)).2.2
theorem Ext.of_keep {H h h' : AH} {p q r : Nat} (he : Ext H.n H h) (hn : h.n ≤ h'.n) (hk : ∀ c, c < h.n → c ≠ p → c ≠ q → c ≠ r → h'.at c = h.at c) (h1 : H.n ≤ p) (h2 : H.n ≤ q) (h3 : H.n ≤ r) : Ext H.n H h' :=
  ⟨Nat.le_trans he.1 hn, fun b hb => (hk b (by have := he.1; omega) (by omega) (by omega) (by omega)).trans (he.2 b hb)⟩
theorem hash2_x {H : AH} {be oe : Nat} (a b : Int) : WC Tryd.prog (tabOf Tryd.prog NT0) S00 76 [.ptr be oe, .lit (.int .u32 a), .lit (.int .u32 b)] H fun r h' => Ext H.n H h' ∧ r = .lit (.int .u32 (hash2F a b)) := by
  refine WC_fn Tryd.func76 rfl rfl ?_
  simp only [core, Nat.reduceAdd, Nat.reduceSub, Nat.reduceMul, Nat.reduceLT, Nat.reduceEqDiff, reduceCtorEq, Nat.reduceLeDiff, Int.reduceLE, Int.reduceLT, Int.reduceToNat, Tryd.ntmps76]
  refine (mix_x (x := (a, b, xorI .u32 (xorI .u32 1315423911 a) b)) (by repeat (first | exact Bx.new rfl | refine Bx.old ?_)) (by repeat (first | exact Bx.new rfl | refine Bx.old ?_)) (by repeat (first | exact Bx.new rfl | refine Bx.old ?_)) (by omega) (by omega) (by omega)).mono ?_
  rintro _ h1 ⟨A1, B1, C1, n1, k1⟩
  have X1 : Bx h1 (H.n + 1 + 1 + 1) 231232 := Bx.after (by repeat (first | exact Bx.new rfl | refine Bx.old ?_)) k1 (by omega) (by omega) (by omega)
  have Y1 : Bx h1 (H.n + 1 + 1 + 1 + 1) 1232 := Bx.after (by repeat (first | exact Bx.new rfl | refine Bx.old ?_)) k1 (by omega) (by omega) (by omega)
  have E1 : Ext H.n H h1 := Ext.of_keep (by repeat (first | exact Ext.refl _ _ | refine Ext.push _ ?_ (by (try simp only [n_push]); omega))) n1 k1 (by omega) (by omega) (by omega)
  clear n1 k1
  obtain ⟨t, ht⟩ : ∃ t, t = mix3 (a, b, xorI .u32 (xorI .u32 1315423911 a) b) := ⟨_, rfl⟩
  rw [← ht] at A1 B1 C1
  simp only [core, Nat.reduceAdd, Nat.reduceSub, Nat.reduceMul, Nat.reduceLT, Nat.reduceEqDiff, reduceCtorEq, Nat.reduceLeDiff, Int.reduceLE, Int.reduceLT, Int.reduceToNat]
  refine (mix_x (x := (231232, t.1, t.2.2)) X1 A1 C1 (by omega) (by omega) (by omega)).mono ?_
  rintro _ h2 ⟨X2, A2, C2, n2, k2⟩
  have B2 := B1.after k2 (by omega) (by omega) (by omega)
  have Y2 := Y1.after k2 (by omega) (by omega) (by omega)
  have E2 := Ext.of_keep E1 n2 k2 (by omega) (by omega) (by omega)
  obtain ⟨u, hu⟩ : ∃ u, u = mix3 (231232, t.1, t.2.2) := ⟨_, rfl⟩
  rw [← hu] at X2 A2 C2
  simp only [core, Nat.reduceAdd, Nat.reduceSub, Nat.reduceMul, Nat.reduceLT, Nat.reduceEqDiff, reduceCtorEq, Nat.reduceLeDiff, Int.reduceLE, Int.reduceLT, Int.reduceToNat]
  refine (mix_x (x := (t.2.1, 1232, u.2.2)) B2 Y2 C2 (by omega) (by omega) (by omega)).mono ?_
  rintro _ h3 ⟨B3, Y3, C3, n3, k3⟩
  have E3 := Ext.of_keep E2 n3 k3 (by omega) (by omega) (by omega)
  have L3 := C3.ld
  simp only [core, Nat.reduceAdd, Nat.reduceSub, Nat.reduceMul, Nat.reduceLT, Nat.reduceEqDiff, reduceCtorEq, Nat.reduceLeDiff, Int.reduceLE, Int.reduceLT, Int.reduceToNat, L3]
  refine ⟨E3, ?_⟩
  subst hu ht
  rfl
theorem hash3_x {H : AH} {be oe : Nat} (a b c : Int) : WC Tryd.prog (tabOf Tryd.prog NT0) S00 75 [.ptr be oe, .lit (.int .u32 a), .lit (.int .u32 b), .lit (.int .u32 c)] H fun r h' => Ext H.n H h' ∧ r = .lit (.int .u32 (hash3F a b c)) := by
  refine WC_fn Tryd.func75 rfl rfl ?_
  simp only [core, Nat.reduceAdd, Nat.reduceSub, Nat.reduceMul, Nat.reduceLT, Nat.reduceEqDiff, reduceCtorEq, Nat.reduceLeDiff, Int.reduceLE, Int.reduceLT, Int.reduceToNat, Tryd.ntmps75]
  obtain ⟨w0, hw0⟩ : ∃ w, w = xorI .u32 (xorI .u32 (xorI .u32 1315423911 a) b) c := ⟨_, rfl⟩
  rw [← hw0]
  refine (mix_x (x := (a, b, w0)) (by repeat (first | exact Bx.new rfl | refine Bx.old ?_)) (by repeat (first | exact Bx.new rfl | refine Bx.old ?_)) (by repeat (first | exact Bx.new rfl | refine Bx.old ?_)) (by omega) (by omega) (by omega)).mono ?_
  rintro _ h1 ⟨A1, B1, W1, n1, k1⟩
  have C1 : Bx h1 (H.n + 1 + 1) c := Bx.after (by repeat (first | exact Bx.new rfl | refine Bx.old ?_)) k1 (by omega) (by omega) (by omega)
  have X1 : Bx h1 (H.n + 1 + 1 + 1 + 1) 231232 := Bx.after (by repeat (first | exact Bx.new rfl | refine Bx.old ?_)) k1 (by omega) (by omega) (by omega)
  have Y1 : Bx h1 (H.n + 1 + 1 + 1 + 1 + 1) 1232 := Bx.after (by repeat (first | exact Bx.new rfl | refine Bx.old ?_)) k1 (by omega) (by omega) (by omega)
  have E1 : Ext H.n H h1 := Ext.of_keep (by repeat (first | exact Ext.refl _ _ | refine Ext.push _ ?_ (by (try simp only [n_push]); omega))) n1 k1 (by omega) (by omega) (by omega)
  clear n1 k1
  obtain ⟨t, ht⟩ : ∃ t, t = mix3 (a, b, w0) := ⟨_, rfl⟩
  rw [← ht] at A1 B1 W1
  simp only [core, Nat.reduceAdd, Nat.reduceSub, Nat.reduceMul, Nat.reduceLT, Nat.reduceEqDiff, reduceCtorEq, Nat.reduceLeDiff, Int.reduceLE, Int.reduceLT, Int.reduceToNat]
  refine (mix_x (x := (c, 231232, t.2.2)) C1 X1 W1 (by omega) (by omega) (by omega)).mono ?_
  rintro _ h2 ⟨C2, X2, W2, n2, k2⟩
  have A2 := A1.after k2 (by omega) (by omega) (by omega)
  have B2 := B1.after k2 (by omega) (by omega) (by omega)
  have Y2 := Y1.after k2 (by omega) (by omega) (by omega)
  have E2 := Ext.of_keep E1 n2 k2 (by omega) (by omega) (by omega)
  obtain ⟨u, hu⟩ : ∃ u, u = mix3 (c, 231232, t.2.2) := ⟨_, rfl⟩
  rw [← hu] at C2 X2 W2
  simp only [core, Nat.reduceAdd, Nat.reduceSub, Nat.reduceMul, Nat.reduceLT, Nat.reduceEqDiff, reduceCtorEq, Nat.reduceLeDiff, Int.reduceLE, Int.reduceLT, Int.reduceToNat]
  refine (mix_x (x := (1232, t.1, u.2.2)) Y2 A2 W2 (by omega) (by omega) (by omega)).mono ?_
  rintro _ h3 ⟨Y3, A3, W3, n3, k3⟩
  have B3 := B2.after k3 (by omega) (by omega) (by omega)
  have X3 := X2.after k3 (by omega) (by omega) (by omega)
  have C3 := C2.after k3 (by omega) (by omega) (by omega)
  have E3 := Ext.of_keep E2 n3 k3 (by omega) (by omega) (by omega)
  obtain ⟨v, hv⟩ : ∃ v, v = mix3 (1232, t.1, u.2.2) := ⟨_, rfl⟩
  rw [← hv] at Y3 A3 W3
  simp only [core, Nat.reduceAdd, Nat.reduceSub, Nat.reduceMul, Nat.reduceLT, Nat.reduceEqDiff, reduceCtorEq, Nat.reduceLeDiff, Int.reduceLE, Int.reduceLT, Int.reduceToNat]
  refine (mix_x (x := (t.2.1, u.2.1, v.2.2)) B3 X3 W3 (by omega) (by omega) (by omega)).mono ?_
  rintro _ h4 ⟨B4, X4, W4, n4, k4⟩
  have Y4 := Y3.after k4 (by omega) (by omega) (by omega)
  have C4 := C3.after k4 (by omega) (by omega) (by omega)
  have E4 := Ext.of_keep E3 n4 k4 (by omega) (by omega) (by omega)
  obtain ⟨z, hz⟩ : ∃ z, z = mix3 (t.2.1, u.2.1, v.2.2) := ⟨_, rfl⟩
  rw [← hz] at B4 X4 W4
  simp only [core, Nat.reduceAdd, Nat.reduceSub, Nat.reduceMul, Nat.reduceLT, Nat.reduceEqDiff, reduceCtorEq, Nat.reduceLeDiff, Int.reduceLE, Int.reduceLT, Int.reduceToNat]
  refine (mix_x (x := (v.1, u.1, z.2.2)) Y4 C4 W4 (by omega) (by omega) (by omega)).mono ?_
  rintro _ h5 ⟨Y5, C5, W5, n5, k5⟩
  have E5 := Ext.of_keep E4 n5 k5 (by omega) (by omega) (by omega)
  have L5 := W5.ld
  simp only [core, Nat.reduceAdd, Nat.reduceSub, Nat.reduceMul, Nat.reduceLT, Nat.reduceEqDiff, reduceCtorEq, Nat.reduceLeDiff, Int.reduceLE, Int.reduceLT, Int.reduceToNat, L5]
  refine ⟨E5, ?_⟩
  subst hz hv hu ht hw0
  rfl
def mixTabU : AV := .agg [.lit (.int .u64 13), .lit (.int .u64 8), .lit (.int .u64 13), .lit (.int .u64 12), .lit (.int .u64 16), .lit (.int .u64 5), .lit (.int .u64 3), .lit (.int .u64 10), .lit (.int .u64 15)]
theorem mixVU0 : pur Tryd.prog (Instr.index 101 (.agg #[.int .u64 13, .int .u64 8, .int .u64 13, .int .u64 12, .int .u64 16, .int .u64 5, .int .u64 3, .int .u64 10, .int .u64 15]) (.int .i64 0)) = some (.ok (.agg #[.int .u64 13, .int .u64 8, .int .u64 13])) := by kernel_rfl
theorem mixVU1 : pur Tryd.prog (Instr.index 101 (.agg #[.int .u64 13, .int .u64 8, .int .u64 13, .int .u64 12, .int .u64 16, .int .u64 5, .int .u64 3, .int .u64 10, .int .u64 15]) (.int .i64 1)) = some (.ok (.agg #[.int .u64 12, .int .u64 16, .int .u64 5])) := by kernel_rfl
theorem mixVU2 : pur Tryd.prog (Instr.index 101 (.agg #[.int .u64 13, .int .u64 8, .int .u64 13, .int .u64 12, .int .u64 16, .int .u64 5, .int .u64 3, .int .u64 10, .int .u64 15]) (.int .i64 2)) = some (.ok (.agg #[.int .u64 3, .int .u64 10, .int .u64 15])) := by kernel_rfl
section
variable {t : TM} {h : AH} {d : Option Tmp} {ty : TypeId} {ps : String} {af : Array Edge} {g : Option (Nat × Bool)}
theorem mixTabU0 {i j : Nat} (hx : t.get i = mixTabU) (hy : t.get j = .lit (.int .i64 0)) : aop Tryd.prog (tabOf Tryd.prog NT0) ⟨d, .index 101 (.tmp i) (.tmp j), ty, ps, af, g⟩ t h = some (.val (.agg [.lit (.int .u64 13), .lit (.int .u64 8), .lit (.int .u64 13)]), h) :=
  a_index_lit (by rw [hx]; rfl) (by rw [hy]; rfl) mixVU0 rfl
theorem mixTabU1 {i j : Nat} (hx : t.get i = mixTabU) (hy : t.get j = .lit (.int .i64 1)) : aop Tryd.prog (tabOf Tryd.prog NT0) ⟨d, .index 101 (.tmp i) (.tmp j), ty, ps, af, g⟩ t h = some (.val (.agg [.lit (.int .u64 12), .lit (.int .u64 16), .lit (.int .u64 5)]), h) :=
  a_index_lit (by rw [hx]; rfl) (by rw [hy]; rfl) mixVU1 rfl
theorem mixTabU2 {i j : Nat} (hx : t.get i = mixTabU) (hy : t.get j = .lit (.int .i64 2)) : aop Tryd.prog (tabOf Tryd.prog NT0) ⟨d, .index 101 (.tmp i) (.tmp j), ty, ps, af, g⟩ t h = some (.val (.agg [.lit (.int .u64 3), .lit (.int .u64 10), .lit (.int .u64 15)]), h) :=
  a_index_lit (by rw [hx]; rfl) (by rw [hy]; rfl) mixVU2 rfl
end
def trioV (x : I3) : AV := .agg [.lit (.int .u32 x.1), .lit (.int .u32 x.2.1), .lit (.int .u32 x.2.2)]
theorem mixRef_x {H : AH} (x : I3) : WC Tryd.prog (tabOf Tryd.prog NT0) S00 57 [.agg [.lit (.int .u32 x.1), .lit (.int .u32 x.2.1), .lit (.int .u32 x.2.2)]] H fun r h' => Ext H.n H h' ∧ r = trioV (mix3 x) := by
  refine WC_fn Tryd.func57 rfl rfl ?_
  simp only [core, Nat.reduceAdd, Nat.reduceSub, Nat.reduceMul, Nat.reduceLT, Nat.reduceEqDiff, reduceCtorEq, Nat.reduceLeDiff, Int.reduceLE, Int.reduceLT, Int.reduceToNat, Tryd.ntmps57]
  rw [WB_regionD [0, 1, 2, 3, 4, 5, 6, 7, 8] 1204932154128817075520000 (by kernel_rfl)]
  repeat ((with_reducible refine WDM_cons ?_; simp only [dw1]; try simp only [dw2, Nat.reduceAdd, Nat.reduceMul, Nat.reduceShiftRight, Nat.reduceMod, Nat.reduceEqDiff]); simp only [core, Nat.reduceAdd, Nat.reduceSub, Nat.reduceMul, Nat.reduceLT, Nat.reduceEqDiff, reduceCtorEq, Nat.reduceLeDiff, Int.reduceLE, Int.reduceLT, Int.reduceToNat, cored])
  refine WB_for 3 (fun i t h => (Ext H.n H h ∧ h.at (H.n + 1) = some (.cells [.lit (.int .u32 0), .lit (.int .u32 0), .lit (.int .u32 0)] 81)) ∧ t.n = 56 ∧ t.get 2 = .ptr (H.n + 1) 0 ∧ t.get 3 = .lit (.int .u32 (mixN i x).1) ∧ t.get 4 = .lit (.int .u32 (mixN i x).2.1) ∧ t.get 5 = .lit (.int .u32 (mixN i x).2.2) ∧ t.get 17 = mixTabU ∧ t.get 18 = .lit (.int .i64 i)) ?_ ?_ _ _ ?_
  · rintro i t h hi hc ⟨⟨he, ha⟩, hn, g2, g3, g4, g5, g17, g18⟩ ih
    have hi3 : i = 0 ∨ i = 1 ∨ i = 2 := by omega
    have ha' : ∀ x, (h.push x).at (H.n + 1) = some (.cells [.lit (.int .u32 0), .lit (.int .u32 0), .lit (.int .u32 0)] 81) := fun x => (at_push_lt _ (at_lt ha)).trans ha
    rcases hi3 with rfl | rfl | rfl
    · have g18 : t.get 18 = .lit (.int .i64 0) := g18
      have hw : IntKind.i64.wrap ((0 : Int) + 1) = ((0 + 1 : Nat) : Int) := by decide
      have hc : ((0 : Int) < 3) = True := by decide
      simp only [core, Nat.reduceAdd, Nat.reduceSub, Nat.reduceMul, Nat.reduceLT, Nat.reduceEqDiff, reduceCtorEq, Nat.reduceLeDiff, Int.reduceLE, Int.reduceLT, Int.reduceToNat, hn, g2, g3, g4, g5, g17, g18, hc, hw, mixTabU0]
      refine ih _ _ ?_
      simp only [core, Nat.reduceAdd, Nat.reduceSub, Nat.reduceMul, Nat.reduceLT, Nat.reduceEqDiff, reduceCtorEq, Nat.reduceLeDiff, Int.reduceLE, Int.reduceLT, Int.reduceToNat, hn, g2, g3, g4, g5, g17, g18]
      refine ⟨⟨he.push _ he.1, ha' _⟩, ?_⟩
      (repeat' apply And.intro) <;> first | rfl | trivial
    · have g18 : t.get 18 = .lit (.int .i64 1) := g18
      have hw : IntKind.i64.wrap ((1 : Int) + 1) = ((1 + 1 : Nat) : Int) := by decide
      have hc : ((1 : Int) < 3) = True := by decide
      simp only [core, Nat.reduceAdd, Nat.reduceSub, Nat.reduceMul, Nat.reduceLT, Nat.reduceEqDiff, reduceCtorEq, Nat.reduceLeDiff, Int.reduceLE, Int.reduceLT, Int.reduceToNat, hn, g2, g3, g4, g5, g17, g18, hc, hw, mixTabU1]
      refine ih _ _ ?_
      simp only [core, Nat.reduceAdd, Nat.reduceSub, Nat.reduceMul, Nat.reduceLT, Nat.reduceEqDiff, reduceCtorEq, Nat.reduceLeDiff, Int.reduceLE, Int.reduceLT, Int.reduceToNat, hn, g2, g3, g4, g5, g17, g18]
      refine ⟨⟨he.push _ he.1, ha' _⟩, ?_⟩
      (repeat' apply And.intro) <;> first | rfl | trivial
    · have g18 : t.get 18 = .lit (.int .i64 2) := g18
      have hw : IntKind.i64.wrap ((2 : Int) + 1) = ((2 + 1 : Nat) : Int) := by decide
      have hc : ((2 : Int) < 3) = True := by decide
      simp only [core, Nat.reduceAdd, Nat.reduceSub, Nat.reduceMul, Nat.reduceLT, Nat.reduceEqDiff, reduceCtorEq, Nat.reduceLeDiff, Int.reduceLE, Int.reduceLT, Int.reduceToNat, hn, g2, g3, g4, g5, g17, g18, hc, hw, mixTabU2]
      refine ih _ _ ?_
      simp only [core, Nat.reduceAdd, Nat.reduceSub, Nat.reduceMul, Nat.reduceLT, Nat.reduceEqDiff, reduceCtorEq, Nat.reduceLeDiff, Int.reduceLE, Int.reduceLT, Int.reduceToNat, hn, g2, g3, g4, g5, g17, g18]
      refine ⟨⟨he.push _ he.1, ha' _⟩, ?_⟩
      (repeat' apply And.intro) <;> first | rfl | trivial
  · rintro t h hc ⟨⟨he, ha⟩, hn, g2, g3, g4, g5, g17, g18⟩
    have g18 : t.get 18 = .lit (.int .i64 3) := g18
    have hc : ((3 : Int) < 3) = False := by decide
    have hlt : H.n + 1 < h.n := at_lt ha
    simp only [core, Nat.reduceAdd, Nat.reduceSub, Nat.reduceMul, Nat.reduceLT, Nat.reduceEqDiff, reduceCtorEq, Nat.reduceLeDiff, Int.reduceLE, Int.reduceLT, Int.reduceToNat, hn, g2, g3, g4, g5, g17, g18, hc, ha, hlt]
    exact ⟨he.put _ (by omega), rfl⟩
  · simp only [core, Nat.reduceAdd, Nat.reduceSub, Nat.reduceMul, Nat.reduceLT, Nat.reduceEqDiff, reduceCtorEq, Nat.reduceLeDiff, Int.reduceLE, Int.reduceLT, Int.reduceToNat]
    refine ⟨((Ext.refl H.n H).push _ (Nat.le_refl _)).push _ (by rw [n_push]; omega), ?_⟩
    (repeat' apply And.intro) <;> first | rfl | trivial
theorem Tri.keep {h h' : AH} {p : Nat} {x : AB} (he : Ext h.n h h') (hp : h.at p = some x) : h'.at p = some x := (he.2 p (at_lt hp)).trans hp
theorem hash2Ref_x {H : AH} (a b : Int) : WC Tryd.prog (tabOf Tryd.prog NT0) S00 45 [.lit (.int .u32 a), .lit (.int .u32 b)] H fun r h' => Ext H.n H h' ∧ r = .lit (.int .u32 (hash2F a b)) := by
  refine WC_fn Tryd.func45 rfl rfl ?_
  simp only [core, Nat.reduceAdd, Nat.reduceSub, Nat.reduceMul, Nat.reduceLT, Nat.reduceEqDiff, reduceCtorEq, Nat.reduceLeDiff, Int.reduceLE, Int.reduceLT, Int.reduceToNat, Tryd.ntmps45]
  refine (mixRef_x (a, b, xorI .u32 (xorI .u32 1315423911 a) b)).mono ?_
  rintro _ h1 ⟨e1, rfl⟩
  obtain ⟨t, ht⟩ : ∃ t, t = mix3 (a, b, xorI .u32 (xorI .u32 1315423911 a) b) := ⟨_, rfl⟩
  rw [← ht]
  unfold trioV
  simp only [core, Nat.reduceAdd, Nat.reduceSub, Nat.reduceMul, Nat.reduceLT, Nat.reduceEqDiff, reduceCtorEq, Nat.reduceLeDiff, Int.reduceLE, Int.reduceLT, Int.reduceToNat]
  refine (mixRef_x (231232, t.1, t.2.2)).mono ?_
  rintro _ h2 ⟨e2, rfl⟩
  obtain ⟨u, hu⟩ : ∃ u, u = mix3 (231232, t.1, t.2.2) := ⟨_, rfl⟩
  rw [← hu]
  unfold trioV
  have T2 := Tri.keep e2 (at_push_n h1 _)
  have LT2 := fun e off => ld_at (T := tabOf Tryd.prog NT0) T2 e off
  have lt2 : h1.n < h2.n := at_lt T2
  simp only [core, Nat.reduceAdd, Nat.reduceSub, Nat.reduceMul, Nat.reduceLT, Nat.reduceEqDiff, reduceCtorEq, Nat.reduceLeDiff, Int.reduceLE, Int.reduceLT, Int.reduceToNat, LT2, lt2]
  refine (mixRef_x (t.2.1, 1232, u.2.2)).mono ?_
  rintro _ h3 ⟨e3, rfl⟩
  unfold trioV
  simp only [core, Nat.reduceAdd, Nat.reduceSub, Nat.reduceMul, Nat.reduceLT, Nat.reduceEqDiff, reduceCtorEq, Nat.reduceLeDiff, Int.reduceLE, Int.reduceLT, Int.reduceToNat]
  refine ⟨(e1.trans ((Ext.push _ (Ext.refl _ _) e1.1).trans (e2.mono (by rw [n_push]; have := e1.1; omega)))).trans (((Ext.refl H.n h2).push _ (by have := e1.1; omega)).trans (e3.mono (by rw [n_push]; have := e1.1; omega))), ?_⟩
  subst hu ht
  rfl
theorem hash3Ref_x {H : AH} (a b c : Int) : WC Tryd.prog (tabOf Tryd.prog NT0) S00 56 [.lit (.int .u32 a), .lit (.int .u32 b), .lit (.int .u32 c)] H fun r h' => Ext H.n H h' ∧ r = .lit (.int .u32 (hash3F a b c)) := by
  refine WC_fn Tryd.func56 rfl rfl ?_
  simp only [core, Nat.reduceAdd, Nat.reduceSub, Nat.reduceMul, Nat.reduceLT, Nat.reduceEqDiff, reduceCtorEq, Nat.reduceLeDiff, Int.reduceLE, Int.reduceLT, Int.reduceToNat, Tryd.ntmps56]
  obtain ⟨w0, hw0⟩ : ∃ w, w = xorI .u32 (xorI .u32 (xorI .u32 1315423911 a) b) c := ⟨_, rfl⟩
  rw [← hw0]
  refine (mixRef_x (a, b, w0)).mono ?_
  rintro _ h1 ⟨e1, rfl⟩
  obtain ⟨t, ht⟩ : ∃ t, t = mix3 (a, b, w0) := ⟨_, rfl⟩
  rw [← ht]
  unfold trioV
  simp only [core, Nat.reduceAdd, Nat.reduceSub, Nat.reduceMul, Nat.reduceLT, Nat.reduceEqDiff, reduceCtorEq, Nat.reduceLeDiff, Int.reduceLE, Int.reduceLT, Int.reduceToNat]
  refine (mixRef_x (c, 231232, t.2.2)).mono ?_
  rintro _ h2 ⟨e2, rfl⟩
  obtain ⟨u, hu⟩ : ∃ u, u = mix3 (c, 231232, t.2.2) := ⟨_, rfl⟩
  rw [← hu]
  unfold trioV
  have T2 := Tri.keep e2 (at_push_n h1 _)
  have LT2 := fun e off => ld_at (T := tabOf Tryd.prog NT0) T2 e off
  have lt2 : h1.n < h2.n := at_lt T2
  have E2 : Ext H.n H h2 := e1.trans ((Ext.push _ (Ext.refl _ _) e1.1).trans (e2.mono (by rw [n_push]; have := e1.1; omega)))
  simp only [core, Nat.reduceAdd, Nat.reduceSub, Nat.reduceMul, Nat.reduceLT, Nat.reduceEqDiff, reduceCtorEq, Nat.reduceLeDiff, Int.reduceLE, Int.reduceLT, Int.reduceToNat, LT2, lt2]
  refine (mixRef_x (1232, t.1, u.2.2)).mono ?_
  rintro _ h3 ⟨e3, rfl⟩
  obtain ⟨v, hv⟩ : ∃ v, v = mix3 (1232, t.1, u.2.2) := ⟨_, rfl⟩
  rw [← hv]
  unfold trioV
  have T3 := Tri.keep e3 ((at_push_lt _ lt2).trans T2)
  have U3 := Tri.keep e3 (at_push_n h2 _)
  have LT3 := fun e off => ld_at (T := tabOf Tryd.prog NT0) T3 e off
  have LU3 := fun e off => ld_at (T := tabOf Tryd.prog NT0) U3 e off
  have lt3 : h1.n < h3.n := at_lt T3
  have lu3 : h2.n < h3.n := at_lt U3
  have E3 : Ext H.n H h3 := E2.trans ((Ext.push _ (Ext.refl _ _) E2.1).trans (e3.mono (by rw [n_push]; have := E2.1; omega)))
  simp only [core, Nat.reduceAdd, Nat.reduceSub, Nat.reduceMul, Nat.reduceLT, Nat.reduceEqDiff, reduceCtorEq, Nat.reduceLeDiff, Int.reduceLE, Int.reduceLT, Int.reduceToNat, LT3, LU3, lt3, lu3]
  refine (mixRef_x (t.2.1, u.2.1, v.2.2)).mono ?_
  rintro _ h4 ⟨e4, rfl⟩
  obtain ⟨z, hz⟩ : ∃ z, z = mix3 (t.2.1, u.2.1, v.2.2) := ⟨_, rfl⟩
  rw [← hz]
  unfold trioV
  have U4 := Tri.keep e4 ((at_push_lt _ lu3).trans U3)
  have V4 := Tri.keep e4 (at_push_n h3 _)
  have LU4 := fun e off => ld_at (T := tabOf Tryd.prog NT0) U4 e off
  have LV4 := fun e off => ld_at (T := tabOf Tryd.prog NT0) V4 e off
  have lu4 : h2.n < h4.n := at_lt U4
  have lv4 : h3.n < h4.n := at_lt V4
  have E4 : Ext H.n H h4 := E3.trans ((Ext.push _ (Ext.refl _ _) E3.1).trans (e4.mono (by rw [n_push]; have := E3.1; omega)))
  simp only [core, Nat.reduceAdd, Nat.reduceSub, Nat.reduceMul, Nat.reduceLT, Nat.reduceEqDiff, reduceCtorEq, Nat.reduceLeDiff, Int.reduceLE, Int.reduceLT, Int.reduceToNat, LU4, LV4, lu4, lv4]
  refine (mixRef_x (v.1, u.1, z.2.2)).mono ?_
  rintro _ h5 ⟨e5, rfl⟩
  unfold trioV
  simp only [core, Nat.reduceAdd, Nat.reduceSub, Nat.reduceMul, Nat.reduceLT, Nat.reduceEqDiff, reduceCtorEq, Nat.reduceLeDiff, Int.reduceLE, Int.reduceLT, Int.reduceToNat]
  refine ⟨E4.trans ((Ext.push _ (Ext.refl _ _) E4.1).trans (e5.mono (by rw [n_push]; have := E4.1; omega))), ?_⟩
  subst hz hv hu ht hw0
  rfl
end Go.Proofs.YtkgbeihcepociaaDoor.Ex
end

section

set_option linter.unusedSimpArgs false
set_option linter.unusedVariables false
set_option maxRecDepth 10000
set_option maxHeartbeats 4000000
namespace Go.Proofs.YtkgbeihcepociaaDoor.Ex
open Go
def len8 (b : Nat) : Nat := if b = 0 then 0 else Nat.log2 b + 1
def tabOk (s : ByteArray) : Bool := (List.range 256).all (fun b => (s[b]?).map (·.toNat) == some (len8 b))
theorem len8_at {s : ByteArray} (hs : tabOk s = true) {b : Nat} (hb : b < 256) : strAt s (b : Int) = some (len8 b) := by
  unfold strAt
  rw [if_pos (by omega), Int.toNat_natCast]
  have := List.all_eq_true.1 hs b (List.mem_range.2 hb)
  simpa using this
theorem shr_nat (x k : Nat) (hk : k ≤ 64) : shrI .u64 (x : Int) (k : Int) = ((x / 2 ^ k : Nat) : Int) := by
  unfold shrI
  have : min (Int.toNat (k : Int)) (IntKind.bits .u64) = k := by simp [IntKind.bits]; omega
  rw [this]
  have h2 : ((2 ^ k : Nat) : Int) = (2 : Int) ^ k := by exact Int.natCast_pow 2 k
  rw [← h2, Int.fdiv_eq_ediv_of_nonneg _ (Int.natCast_nonneg _)]
  rfl
theorem wrap_u8 {n : Nat} (h : n < 256) : IntKind.u8.wrap (n : Int) = (n : Int) := by
  unfold IntKind.wrap
  simp [IntKind.bits, IntKind.signed]
  omega
theorem log2_div (x : Nat) (h : 256 ≤ x) : Nat.log2 x = Nat.log2 (x / 256) + 8 := by
  have e : ∀ k y, 2 ^ k ≤ y → Nat.log2 y = Nat.log2 (y / 2 ^ k) + k := by
    intro k
    induction k with
    | zero => intro y _; simp
    | succ k ih =>
      intro y hy
      have h2 : 2 ≤ y := by have := Nat.one_le_two_pow (n := k); rw [Nat.pow_succ] at hy; omega
      rw [Nat.log2_def y, if_pos h2, ih (y / 2) (by rw [Nat.pow_succ] at hy; omega), Nat.div_div_eq_div_mul, Nat.pow_succ, Nat.mul_comm 2]
      omega
  exact e 8 x h
theorem len64_x {H : AH} (x : Nat) (h1 : 1 ≤ x) (h2 : x ≤ 65536) : WC Tryd.prog (tabOf Tryd.prog NT0) S00 71 [.lit (.int .u64 x)] H fun r h' => h' = H ∧ r = .lit (.int .i64 ((Nat.log2 x + 1 : Nat))) := by
  refine WC_fn Tryd.func71 rfl rfl ?_
  have c1 : ¬ (4294967296 : Int) ≤ (x : Int) := by omega
  by_cases h3 : x = 65536
  · subst h3
    have c2 : (65536 : Int) ≤ ((65536 : Nat) : Int) := by omega
    have e1 : shrI .u64 ((65536 : Nat) : Int) 16 = 1 := by decide
    have e2 : IntKind.i64.wrap (0 + 16) = 16 := by decide
    have e3 : IntKind.u8.wrap 1 = 1 := by decide
    have e4 : IntKind.i64.wrap (16 + 1) = 17 := by decide
    have c3 : ¬ (256 : Int) ≤ 1 := by omega
    have c4 : ∀ s, tabOk s = true → strAt s 1 = some 1 := fun s hs => len8_at hs (b := 1) (by omega)
    simp only [core, Nat.reduceAdd, Nat.reduceSub, Nat.reduceMul, Nat.reduceLT, Nat.reduceEqDiff, reduceCtorEq, Nat.reduceLeDiff, Int.reduceLE, Int.reduceLT, Int.reduceToNat, Tryd.ntmps71, c1, c2, e1, e2, e3, e4, c3]
    rw [c4 _ (by kernel_rfl)]
    simp only [core, Nat.reduceAdd, Nat.reduceSub, Nat.reduceMul, Nat.reduceLT, Nat.reduceEqDiff, reduceCtorEq, Nat.reduceLeDiff, Int.reduceLE, Int.reduceLT, Int.reduceToNat, e4]
    rfl
  · have c2 : ¬ (65536 : Int) ≤ (x : Int) := by omega
    by_cases h4 : 256 ≤ x
    · have c3 : (256 : Int) ≤ (x : Int) := by omega
      have e1 : shrI .u64 (x : Int) 8 = ((x / 256 : Nat) : Int) := shr_nat x 8 (by omega)
      have e2 : IntKind.i64.wrap (0 + 8) = 8 := by decide
      have e3 : IntKind.u8.wrap ((x / 256 : Nat) : Int) = ((x / 256 : Nat) : Int) := wrap_u8 (by omega)
      have c4 : ∀ s, tabOk s = true → strAt s ((x / 256 : Nat) : Int) = some (len8 (x / 256)) := fun s hs => len8_at hs (by omega)
      simp only [core, Nat.reduceAdd, Nat.reduceSub, Nat.reduceMul, Nat.reduceLT, Nat.reduceEqDiff, reduceCtorEq, Nat.reduceLeDiff, Int.reduceLE, Int.reduceLT, Int.reduceToNat, Tryd.ntmps71, c1, c2, e1, e2, e3, c3]
      rw [c4 _ (by kernel_rfl)]
      have h5 : len8 (x / 256) = Nat.log2 (x / 256) + 1 := by unfold len8; rw [if_neg (by omega)]
      have h6 : Nat.log2 (x / 256) < 8 := (Nat.log2_lt (by omega)).2 (by omega)
      have e4 : IntKind.i64.wrap ((len8 (x / 256) : Nat) : Int) = ((Nat.log2 (x / 256) + 1 : Nat) : Int) := by rw [h5]; exact wrap_in (by omega) (by omega)
      have e5 : IntKind.i64.wrap (8 + ((Nat.log2 (x / 256) + 1 : Nat) : Int)) = ((Nat.log2 x + 1 : Nat) : Int) := by rw [log2_div x h4]; exact (wrap_in (by omega) (by omega)).trans (by omega)
      simp only [core, Nat.reduceAdd, Nat.reduceSub, Nat.reduceMul, Nat.reduceLT, Nat.reduceEqDiff, reduceCtorEq, Nat.reduceLeDiff, Int.reduceLE, Int.reduceLT, Int.reduceToNat, e4, e5]
    · have c3 : ¬ (256 : Int) ≤ (x : Int) := by omega
      have e3 : IntKind.u8.wrap (x : Int) = (x : Int) := wrap_u8 (by omega)
      have c4 : ∀ s, tabOk s = true → strAt s (x : Int) = some (len8 x) := fun s hs => len8_at hs (by omega)
      simp only [core, Nat.reduceAdd, Nat.reduceSub, Nat.reduceMul, Nat.reduceLT, Nat.reduceEqDiff, reduceCtorEq, Nat.reduceLeDiff, Int.reduceLE, Int.reduceLT, Int.reduceToNat, Tryd.ntmps71, c1, c2, e3, c3]
      rw [c4 _ (by kernel_rfl)]
      have h5 : len8 x = Nat.log2 x + 1 := by unfold len8; rw [if_neg (by omega)]
      have h6 : Nat.log2 x < 8 := (Nat.log2_lt (by omega)).2 (by omega)
      have e4 : IntKind.i64.wrap ((len8 x : Nat) : Int) = ((Nat.log2 x + 1 : Nat) : Int) := by rw [h5]; exact wrap_in (by omega) (by omega)
      have e5 : IntKind.i64.wrap (0 + ((Nat.log2 x + 1 : Nat) : Int)) = ((Nat.log2 x + 1 : Nat) : Int) := (wrap_in (by omega) (by omega)).trans (by omega)
      simp only [core, Nat.reduceAdd, Nat.reduceSub, Nat.reduceMul, Nat.reduceLT, Nat.reduceEqDiff, reduceCtorEq, Nat.reduceLeDiff, Int.reduceLE, Int.reduceLT, Int.reduceToNat, e4, e5]
def lnS (k : Int) (x : Int × Int) : Int × Int :=
  let y := shrI .u64 (IntKind.u64.wrap (x.1 * x.1)) 31
  if 4294967296 ≤ y then (shrI .u64 y 1, IntKind.i64.wrap (x.2 + shlI .i64 1 k)) else (y, x.2)
def lnL : Nat → Int × Int → Int × Int
  | 0, x => x
  | n + 1, x => lnL n (lnS n x)
def clampU (u : Int) : Nat := (if u < 0 then 0 else if 65535 < u then 65535 else u).toNat + 1
def lnF (u : Int) : Int := (lnL 44 (shlI .u64 (clampU u) (IntKind.i64.wrap (31 - (Nat.log2 (clampU u) : Int))), shlI .i64 (Nat.log2 (clampU u)) 44)).2
theorem clampU_le (u : Int) : 1 ≤ clampU u ∧ clampU u ≤ 65536 := by unfold clampU; split <;> (try split) <;> omega
theorem ln_x {H : AH} (u : Int) : WC Tryd.prog (tabOf Tryd.prog NT0) S00 88 [.lit (.int .i64 u)] H fun r h' => h' = H ∧ r = .lit (.int .i64 (lnF u)) := by
  refine WC_fn Tryd.func88 rfl rfl ?_
  obtain ⟨X, hX⟩ : ∃ X, X = clampU u := ⟨_, rfl⟩
  obtain ⟨x1, x2⟩ := clampU_le u
  rw [← hX] at x1 x2
  have hcl : ∀ v, v = (if u < 0 then 0 else u) → IntKind.u64.wrap (IntKind.u64.wrap (if 65535 < v then 65535 else v) + 1) = (X : Int) := fun v hv => by
    rw [hX, hv]
    unfold clampU
    by_cases h1 : u < 0
    · rw [if_pos h1, if_neg (by omega), if_pos h1]; decide
    · rw [if_neg h1, if_neg h1]
      by_cases h2 : 65535 < u
      · rw [if_pos h2]; decide
      · rw [if_neg h2]
        rw [wrap_u64 (n := u) (by omega) (by omega), wrap_u64 (by omega) (by omega)]
        omega
  have hcl := hcl _ rfl
  simp only [corem, WB_cond_s, put, ldL, WB_label, List.nil_append, List.drop_zero, List.take_zero, Nat.reduceAdd, Nat.reduceSub, Nat.reduceMul, Nat.reduceLT, Nat.reduceEqDiff, reduceCtorEq, Nat.reduceLeDiff, Int.reduceLE, Int.reduceLT, Int.reduceToNat, Tryd.ntmps88, -WB_label, hcl]
  refine (len64_x X x1 x2).mono ?_
  rintro _ h ⟨rfl, rfl⟩
  have hl : Nat.log2 X < 17 := (Nat.log2_lt (by omega)).2 (by omega)
  have hw1 : IntKind.i64.wrap (((Nat.log2 X + 1 : Nat) : Int) - 1) = (Nat.log2 X : Int) := (wrap_in (by omega) (by omega)).trans (by omega)
  have hw2 : (0 : Int) ≤ IntKind.i64.wrap (31 - (Nat.log2 X : Int)) := by rw [wrap_in (by omega) (by omega)]; omega
  simp only [corem, WB_cond_s, put, ldL, WB_label, List.nil_append, List.drop_zero, List.take_zero, Nat.reduceAdd, Nat.reduceSub, Nat.reduceMul, Nat.reduceLT, Nat.reduceEqDiff, reduceCtorEq, Nat.reduceLeDiff, Int.reduceLE, Int.reduceLT, Int.reduceToNat, Tryd.ntmps88, -WB_label, hw1, hw2]
  refine WB_lab rfl (fun t h => by simp only [WB_seq, WB_label, WB_skip]) (fun n t h' => ∃ y o : Int, n ≤ 43 ∧ h' = h ∧ (lnL (n + 1) (y, o)).2 = lnF u ∧ t.n = 39 ∧ t.get 5 = .lit (.int .u64 y) ∧ t.get 6 = .lit (.int .i64 o) ∧ t.get 7 = .lit (.int .i64 n)) 43 ?_ _ _ ?_
  · rintro n t h' ⟨y, o, hn43, rfl, hL, hn, g5, g6, g7⟩ ih
    have hn0 : (0 : Int) ≤ (n : Int) := by omega
    have key : lnL (n + 1) (y, o) = lnL n (lnS n (y, o)) := rfl
    rw [key] at hL
    unfold lnS at hL
    simp only at hL
    cases n with
    | zero =>
      have hw3 : IntKind.i64.wrap (((0 : Nat) : Int) - 1) = -1 := by decide
      simp only [corem, WB_cond_s, put, ldL, WB_label, List.nil_append, List.drop_zero, List.take_zero, Nat.reduceAdd, Nat.reduceSub, Nat.reduceMul, Nat.reduceLT, Nat.reduceEqDiff, reduceCtorEq, Nat.reduceLeDiff, Int.reduceLE, Int.reduceLT, Int.reduceToNat, hn, g5, g6, g7, -WB_label, hw3, hn0]
      refine ⟨fun hq => ?_, fun hq => ?_⟩
      · rw [if_pos (by simpa using hq)] at hL
        rw [← hL]; rfl
      · rw [if_neg (by simpa using hq)] at hL
        rw [← hL]; rfl
    | succ m =>
      have hw3 : IntKind.i64.wrap (((m + 1 : Nat) : Int) - 1) = (m : Int) := (wrap_in (by omega) (by omega)).trans (by omega)
      have hm : (0 : Int) ≤ (m : Int) := by omega
      have hd : decide ((0 : Int) ≤ (m : Int)) = true := by simp
      simp only [corem, WB_cond_s, put, ldL, WB_label, List.nil_append, List.drop_zero, List.take_zero, Nat.reduceAdd, Nat.reduceSub, Nat.reduceMul, Nat.reduceLT, Nat.reduceEqDiff, reduceCtorEq, Nat.reduceLeDiff, Int.reduceLE, Int.reduceLT, Int.reduceToNat, hn, g5, g6, g7, -WB_label, hw3, hn0, hm]
      refine ⟨fun hq => ?_, fun hq => ?_⟩
      · refine WB_goto ?_
        refine ih m _ _ (by omega) ⟨shrI .u64 (shrI .u64 (IntKind.u64.wrap (y * y)) 31) 1, IntKind.i64.wrap (o + shlI .i64 1 ((m + 1 : Nat) : Int)), by omega, rfl, ?_, ?_⟩
        rotate_left
        · simp only [core, Nat.reduceAdd, Nat.reduceSub, Nat.reduceMul, Nat.reduceLT, Nat.reduceEqDiff, reduceCtorEq, Nat.reduceLeDiff, Int.reduceLE, Int.reduceLT, Int.reduceToNat, hn, g5, g6, g7]
        · rw [if_pos (by simpa using hq)] at hL
          exact hL
      · refine WB_goto ?_
        refine ih m _ _ (by omega) ⟨shrI .u64 (IntKind.u64.wrap (y * y)) 31, o, by omega, rfl, ?_, ?_⟩
        rotate_left
        · simp only [core, Nat.reduceAdd, Nat.reduceSub, Nat.reduceMul, Nat.reduceLT, Nat.reduceEqDiff, reduceCtorEq, Nat.reduceLeDiff, Int.reduceLE, Int.reduceLT, Int.reduceToNat, hn, g5, g6, g7]
        · rw [if_neg (by simpa using hq)] at hL
          exact hL
  · refine ⟨shlI .u64 X (IntKind.i64.wrap (31 - (Nat.log2 X : Int))), shlI .i64 (Nat.log2 X) 44, Nat.le_refl _, rfl, ?_, ?_⟩
    · unfold lnF
      rw [← hX]
    · simp only [core, Nat.reduceAdd, Nat.reduceSub, Nat.reduceMul, Nat.reduceLT, Nat.reduceEqDiff, reduceCtorEq, Nat.reduceLeDiff, Int.reduceLE, Int.reduceLT, Int.reduceToNat]
      rfl
theorem shl_nat (x k : Nat) (hk : k ≤ 64) (e : Int) (he : e = (k : Int)) : shlI .u64 (x : Int) e = IntKind.u64.wrap ((x * 2 ^ k : Nat) : Int) := by
  subst he
  unfold shlI
  have : min (Int.toNat (k : Int)) (IntKind.bits .u64) = k := by simp [IntKind.bits]; omega
  rw [this]
  have h2 : ((2 ^ k : Nat) : Int) = (2 : Int) ^ k := by exact Int.natCast_pow 2 k
  rw [← h2]
  rfl
theorem log2_top {x e : Nat} (h1 : 1 ≤ x) (he : e ≤ Nat.log2 x) : (0 < x / 2 ^ (e + 1)) ↔ e < Nat.log2 x := by
  rw [Nat.div_pos_iff]
  constructor
  · rintro ⟨_, h⟩
    exact (Nat.le_log2 (by omega)).2 h
  · intro h
    exact ⟨Nat.two_pow_pos _, (Nat.le_log2 (by omega)).1 h⟩
theorem lnRef_x {H : AH} (u : Int) : WC Tryd.prog (tabOf Tryd.prog NT0) S00 77 [.lit (.int .i64 u)] H fun r h' => h' = H ∧ r = .lit (.int .i64 (lnF u)) := by
  refine WC_fn Tryd.func77 rfl rfl ?_
  obtain ⟨X, hX⟩ : ∃ X, X = clampU u := ⟨_, rfl⟩
  obtain ⟨x1, x2⟩ := clampU_le u
  rw [← hX] at x1 x2
  have hl : Nat.log2 X < 17 := (Nat.log2_lt (by omega)).2 (by omega)
  simp only [corem, WB_cond_s, put, ldL, WB_label, List.nil_append, List.drop_zero, List.take_zero, Nat.reduceAdd, Nat.reduceSub, Nat.reduceMul, Nat.reduceLT, Nat.reduceEqDiff, reduceCtorEq, Nat.reduceLeDiff, Int.reduceLE, Int.reduceLT, Int.reduceToNat, Tryd.ntmps77, -WB_cond_s]
  refine WB_cut (fun t h => H = h ∧ t.n = 48 ∧ t.get 0 = .lit (.int .i64 (if u < 0 then 0 else u))) (fun k' K' hk => ?_) ?_
  · rw [WB_cond_s]
    simp only [core, Nat.reduceAdd, Nat.reduceSub, Nat.reduceMul, Nat.reduceLT, Nat.reduceEqDiff, reduceCtorEq, Nat.reduceLeDiff, Int.reduceLE, Int.reduceLT, Int.reduceToNat]
    refine ⟨fun hq => hk _ _ ⟨rfl, ?_⟩, fun hq => hk _ _ ⟨rfl, ?_⟩⟩
    · simp only [core, Nat.reduceAdd, Nat.reduceSub, Nat.reduceMul, Nat.reduceLT, Nat.reduceEqDiff, reduceCtorEq, Nat.reduceLeDiff, Int.reduceLE, Int.reduceLT, Int.reduceToNat]
      rw [if_pos (by simpa using hq)]
    · simp only [core, Nat.reduceAdd, Nat.reduceSub, Nat.reduceMul, Nat.reduceLT, Nat.reduceEqDiff, reduceCtorEq, Nat.reduceLeDiff, Int.reduceLE, Int.reduceLT, Int.reduceToNat]
      rw [if_neg (by simpa using hq)]
  rintro t h ⟨rfl, hn, g0⟩
  obtain ⟨v, hv⟩ : ∃ v, v = (if u < 0 then 0 else u) := ⟨_, rfl⟩
  rw [← hv] at g0
  simp only [corem, WB_cond_s, put, ldL, WB_label, List.nil_append, List.drop_zero, List.take_zero, Nat.reduceAdd, Nat.reduceSub, Nat.reduceMul, Nat.reduceLT, Nat.reduceEqDiff, reduceCtorEq, Nat.reduceLeDiff, Int.reduceLE, Int.reduceLT, Int.reduceToNat, hn, g0, -WB_cond_s]
  refine WB_cut (fun t h => H = h ∧ t.n = 48 ∧ t.get 0 = .lit (.int .i64 ((X : Int) - 1))) (fun k' K' hk => ?_) ?_
  · rw [WB_cond_s]
    simp only [core, Nat.reduceAdd, Nat.reduceSub, Nat.reduceMul, Nat.reduceLT, Nat.reduceEqDiff, reduceCtorEq, Nat.reduceLeDiff, Int.reduceLE, Int.reduceLT, Int.reduceToNat, hn, g0]
    refine ⟨fun hq => hk _ _ ⟨rfl, ?_⟩, fun hq => hk _ _ ⟨rfl, ?_⟩⟩
    · simp only [core, Nat.reduceAdd, Nat.reduceSub, Nat.reduceMul, Nat.reduceLT, Nat.reduceEqDiff, reduceCtorEq, Nat.reduceLeDiff, Int.reduceLE, Int.reduceLT, Int.reduceToNat, hn, g0]
      have hq : 65535 < v := by simpa using hq
      have : (X : Int) = 65536 := by
        rw [hX]; unfold clampU
        split at hv
        · omega
        · subst hv; rw [if_neg (by omega), if_pos hq]; rfl
      rw [this]
      rfl
    · simp only [core, Nat.reduceAdd, Nat.reduceSub, Nat.reduceMul, Nat.reduceLT, Nat.reduceEqDiff, reduceCtorEq, Nat.reduceLeDiff, Int.reduceLE, Int.reduceLT, Int.reduceToNat, hn, g0]
      have hq : ¬ 65535 < v := by simpa using hq
      have : (X : Int) - 1 = v := by
        rw [hX]; unfold clampU
        split at hv
        · rename_i h0; rw [if_pos h0]; subst hv; rfl
        · rename_i h0; subst hv; rw [if_neg h0, if_neg hq]; omega
      rw [this]
  rintro t h ⟨rfl, hn, g0⟩
  have e1 : IntKind.u64.wrap (IntKind.u64.wrap ((X : Int) - 1) + 1) = (X : Int) := by
    rw [wrap_u64 (n := (X : Int) - 1) (by omega) (by omega), wrap_u64 (by omega) (by omega)]; omega
  simp only [core, Nat.reduceAdd, Nat.reduceSub, Nat.reduceMul, Nat.reduceLT, Nat.reduceEqDiff, reduceCtorEq, Nat.reduceLeDiff, Int.reduceLE, Int.reduceLT, Int.reduceToNat, hn, g0, e1]
  refine WB_ind (fun (e : Nat) t h => H = h ∧ e ≤ Nat.log2 X ∧ t.n = 48 ∧ t.get 3 = .lit (.int .u64 X) ∧ t.get 4 = .lit (.int .i64 e)) (fun e => Nat.log2 X - e) ?_ 0 _ _ ?_
  · rintro e t h ⟨rfl, he, hn, g3, g4⟩ ih
    have hw : IntKind.i64.wrap ((e : Int) + 1) = ((e + 1 : Nat) : Int) := wrap_succ (n := 60) (by omega) (by omega)
    have hw2 : IntKind.u64.wrap ((e + 1 : Nat) : Int) = ((e + 1 : Nat) : Int) := wrap_u64 (by omega) (by omega)
    have hs := shr_nat X (e + 1) (by omega)
    have h0 : (0 : Int) ≤ ((e + 1 : Nat) : Int) := by omega
    have ht := log2_top x1 he
    by_cases hlt : e < Nat.log2 X
    · have hc : ((0 : Int) < ((X / 2 ^ (e + 1) : Nat) : Int)) = True := by have h9 := ht.2 hlt; simp only [eq_iff_iff, iff_true]; omega
      simp only [core, Nat.reduceAdd, Nat.reduceSub, Nat.reduceMul, Nat.reduceLT, Nat.reduceEqDiff, reduceCtorEq, Nat.reduceLeDiff, Int.reduceLE, Int.reduceLT, Int.reduceToNat, hn, g3, g4, hw, hw2, hs, h0, hc]
      refine ih (e + 1) _ _ ⟨rfl, by omega, ?_⟩ (by omega)
      simp only [core, Nat.reduceAdd, Nat.reduceSub, Nat.reduceMul, Nat.reduceLT, Nat.reduceEqDiff, reduceCtorEq, Nat.reduceLeDiff, Int.reduceLE, Int.reduceLT, Int.reduceToNat, hn, g3, g4]
    · have hc : ((0 : Int) < ((X / 2 ^ (e + 1) : Nat) : Int)) = False := by have h9 : ¬ 0 < X / 2 ^ (e + 1) := fun h => hlt (ht.1 h); simp only [eq_iff_iff, iff_false]; omega
      have heq : e = Nat.log2 X := by omega
      subst heq
      have hw3 : IntKind.i64.wrap (31 - (Nat.log2 X : Int)) = 31 - (Nat.log2 X : Int) := wrap_in (by omega) (by omega)
      have hw4 : IntKind.u64.wrap (31 - (Nat.log2 X : Int)) = 31 - (Nat.log2 X : Int) := wrap_u64 (by omega) (by omega)
      have h31 : (0 : Int) ≤ 31 - (Nat.log2 X : Int) := by omega
      simp only [core, Nat.reduceAdd, Nat.reduceSub, Nat.reduceMul, Nat.reduceLT, Nat.reduceEqDiff, reduceCtorEq, Nat.reduceLeDiff, Int.reduceLE, Int.reduceLT, Int.reduceToNat, hn, g3, g4, hw, hw2, hs, h0, hc, hw3, hw4, h31]
      refine WB_ind (fun (n : Nat) t h' => ∃ y o : Int, n ≤ 44 ∧ H = h' ∧ (lnL n (y, o)).2 = lnF u ∧ t.n = 48 ∧ t.get 5 = .lit (.int .u64 y) ∧ t.get 6 = .lit (.int .i64 o) ∧ t.get 7 = .lit (.int .i64 ((n : Int) - 1))) (fun n => n) ?_ 44 _ _ ?_
      · rintro n t h' ⟨y, o, hn44, rfl, hL, hn, g5, g6, g7⟩ ih2
        cases n with
        | zero =>
          have hc : ((0 : Int) ≤ ((0 : Nat) : Int) - 1) = False := by decide
          simp only [core, Nat.reduceAdd, Nat.reduceSub, Nat.reduceMul, Nat.reduceLT, Nat.reduceEqDiff, reduceCtorEq, Nat.reduceLeDiff, Int.reduceLE, Int.reduceLT, Int.reduceToNat, hn, g5, g6, g7, hc]
          rw [← hL]; rfl
        | succ m =>
          have hg7 : t.get 7 = .lit (.int .i64 (m : Int)) := by rw [g7]; congr 2; omega
          have hc : ((0 : Int) ≤ (m : Int)) = True := by simp
          have hw5 : IntKind.u64.wrap (m : Int) = (m : Int) := wrap_u64 (by omega) (by omega)
          have hw6 : IntKind.i64.wrap ((m : Int) - 1) = (m : Int) - 1 := wrap_in (by omega) (by omega)
          have hm : (0 : Int) ≤ (m : Int) := by omega
          have key : lnL (m + 1) (y, o) = lnL m (lnS m (y, o)) := rfl
          rw [key] at hL
          unfold lnS at hL
          simp only at hL
          simp only [core, Nat.reduceAdd, Nat.reduceSub, Nat.reduceMul, Nat.reduceLT, Nat.reduceEqDiff, reduceCtorEq, Nat.reduceLeDiff, Int.reduceLE, Int.reduceLT, Int.reduceToNat, hn, g5, g6, hg7, hc, hw5, hw6, hm]
          refine ⟨fun hq => ?_, fun hq => ?_⟩
          · rw [if_pos (by simpa using hq)] at hL
            refine ih2 m _ _ ⟨shrI .u64 (shrI .u64 (IntKind.u64.wrap (y * y)) 31) 1, IntKind.i64.wrap (o + shlI .i64 1 (m : Int)), by omega, rfl, hL, ?_⟩ (by omega)
            simp only [core, Nat.reduceAdd, Nat.reduceSub, Nat.reduceMul, Nat.reduceLT, Nat.reduceEqDiff, reduceCtorEq, Nat.reduceLeDiff, Int.reduceLE, Int.reduceLT, Int.reduceToNat, hn, g5, g6, g7]
          · rw [if_neg (by simpa using hq)] at hL
            refine ih2 m _ _ ⟨shrI .u64 (IntKind.u64.wrap (y * y)) 31, o, by omega, rfl, hL, ?_⟩ (by omega)
            simp only [core, Nat.reduceAdd, Nat.reduceSub, Nat.reduceMul, Nat.reduceLT, Nat.reduceEqDiff, reduceCtorEq, Nat.reduceLeDiff, Int.reduceLE, Int.reduceLT, Int.reduceToNat, hn, g5, g6, g7]
      · refine ⟨shlI .u64 X (31 - (Nat.log2 X : Int)), shlI .i64 (Nat.log2 X) 44, Nat.le_refl _, rfl, ?_, ?_⟩
        · unfold lnF
          rw [← hX, hw3]
        · simp only [core, Nat.reduceAdd, Nat.reduceSub, Nat.reduceMul, Nat.reduceLT, Nat.reduceEqDiff, reduceCtorEq, Nat.reduceLeDiff, Int.reduceLE, Int.reduceLT, Int.reduceToNat, hn, g3, g4]
          rfl
  · refine ⟨rfl, Nat.zero_le _, ?_⟩
    simp only [core, Nat.reduceAdd, Nat.reduceSub, Nat.reduceMul, Nat.reduceLT, Nat.reduceEqDiff, reduceCtorEq, Nat.reduceLeDiff, Int.reduceLE, Int.reduceLT, Int.reduceToNat, hn, g0]
    rfl
end Go.Proofs.YtkgbeihcepociaaDoor.Ex
end

section

set_option linter.unusedSimpArgs false
set_option linter.unusedVariables false
set_option maxRecDepth 10000
namespace Go.Proofs.YtkgbeihcepociaaDoor.Ex
open Go
/-- A number is computed first. -/
def fN {β : Type} (n : Nat) (k : Nat → β) : β := Nat.rec (motive := fun _ => β) (k 0) (fun m _ => k (Nat.succ m)) n
theorem fN_eq {β : Type} (n : Nat) (k : Nat → β) : fN n k = k n := by cases n <;> rfl
def subN (a b : Nat) : Nat := Nat.mod (Nat.add a (Nat.sub 4294967296 b)) 4294967296
abbrev N3 := Nat × Nat × Nat
def mixRN (s0 s1 s2 a b c : Nat) : N3 :=
  fN (Nat.xor (subN (subN a b) c) (Nat.shiftRight c s0)) fun a =>
  fN (Nat.xor (subN (subN b c) a) (Nat.mod (Nat.shiftLeft a s1) 4294967296)) fun b =>
  fN (Nat.xor (subN (subN c a) b) (Nat.shiftRight b s2)) fun c => (a, b, c)
def mix3N (x : N3) : N3 := match x with
  | (a, b, c) => match mixRN 13 8 13 a b c with
    | (a, b, c) => match mixRN 12 16 5 a b c with
      | (a, b, c) => mixRN 3 10 15 a b c
def toI (x : N3) : I3 := ((x.1 : Int), (x.2.1 : Int), (x.2.2 : Int))
def lt3 (x : N3) : Prop := x.1 < 4294967296 ∧ x.2.1 < 4294967296 ∧ x.2.2 < 4294967296
theorem xorI_nat {a b : Nat} (ha : a < 4294967296) (hb : b < 4294967296) : xorI .u32 (a : Int) (b : Int) = ((Nat.xor a b : Nat) : Int) ∧ Nat.xor a b < 4294967296 := by
  have hx : a ^^^ b < 2 ^ 32 := Nat.xor_lt_two_pow (n := 32) ha hb
  refine ⟨?_, hx⟩
  unfold xorI
  have e1 : (BitVec.ofInt (IntKind.bits .u32) (a : Int)).toNat = a := by
    show (BitVec.ofInt 32 (a : Int)).toNat = a
    rw [BitVec.ofInt_natCast, BitVec.toNat_ofNat, Nat.mod_eq_of_lt ha]
  have e2 : (BitVec.ofInt (IntKind.bits .u32) (b : Int)).toNat = b := by
    show (BitVec.ofInt 32 (b : Int)).toNat = b
    rw [BitVec.ofInt_natCast, BitVec.toNat_ofNat, Nat.mod_eq_of_lt hb]
  rw [BitVec.toNat_xor, e1, e2]
  exact wrap_u32 (by omega) (by have : a ^^^ b < 4294967296 := hx; omega)
theorem subN_lt (a b : Nat) : subN a b < 4294967296 := Nat.mod_lt _ (by decide)
theorem wrap_sub {a b : Nat} (ha : a < 4294967296) (hb : b < 4294967296) : IntKind.u32.wrap ((a : Int) - (b : Int)) = ((subN a b : Nat) : Int) := by
  unfold subN IntKind.wrap
  simp only [IntKind.bits, IntKind.signed, Bool.false_and]
  show ((a : Int) - b) % 4294967296 = (((a + (4294967296 - b)) % 4294967296 : Nat) : Int)
  omega
theorem shr32 {a : Nat} (k : Nat) (hk : k ≤ 32) (ha : a < 4294967296) : shrI .u32 (a : Int) (k : Int) = ((Nat.shiftRight a k : Nat) : Int) ∧ Nat.shiftRight a k < 4294967296 := by
  have e0 : Nat.shiftRight a k = a / 2 ^ k := Nat.shiftRight_eq_div_pow a k
  rw [e0]
  refine ⟨?_, Nat.lt_of_le_of_lt (Nat.div_le_self _ _) ha⟩
  unfold shrI
  have : min (Int.toNat (k : Int)) (IntKind.bits .u32) = k := by simp [IntKind.bits]; omega
  rw [this]
  have h2 : ((2 ^ k : Nat) : Int) = (2 : Int) ^ k := by exact Int.natCast_pow 2 k
  rw [← h2, Int.fdiv_eq_ediv_of_nonneg _ (Int.natCast_nonneg _)]
  rfl
theorem shl32 {a : Nat} (k : Nat) (hk : k ≤ 32) : shlI .u32 (a : Int) (k : Int) = ((Nat.mod (Nat.shiftLeft a k) 4294967296 : Nat) : Int) ∧ Nat.mod (Nat.shiftLeft a k) 4294967296 < 4294967296 := by
  refine ⟨?_, Nat.mod_lt _ (by decide)⟩
  have e0 : Nat.shiftLeft a k = a * 2 ^ k := Nat.shiftLeft_eq a k
  rw [e0]
  unfold shlI
  have : min (Int.toNat (k : Int)) (IntKind.bits .u32) = k := by simp [IntKind.bits]; omega
  rw [this]
  have h2 : ((2 ^ k : Nat) : Int) = (2 : Int) ^ k := by exact Int.natCast_pow 2 k
  rw [← h2]
  generalize 2 ^ k = m
  unfold IntKind.wrap
  simp only [IntKind.bits, IntKind.signed, Bool.false_and]
  show ((a : Int) * (m : Int)) % 4294967296 = ((a * m % 4294967296 : Nat) : Int)
  rw [Int.natCast_emod, Int.natCast_mul]
  rfl
theorem mixRN_ok {s0 s1 s2 a b c : Nat} (h0 : s0 ≤ 32) (h1 : s1 ≤ 32) (h2 : s2 ≤ 32) (ha : a < 4294967296) (hb : b < 4294967296) (hc : c < 4294967296) :
    mixR (s0 : Int) (s1 : Int) (s2 : Int) (toI (a, b, c)) = toI (mixRN s0 s1 s2 a b c) ∧ lt3 (mixRN s0 s1 s2 a b c) := by
  obtain ⟨p1, p2⟩ := shr32 s0 h0 hc
  obtain ⟨a', ha'⟩ : ∃ a', a' = Nat.xor (subN (subN a b) c) (Nat.shiftRight c s0) := ⟨_, rfl⟩
  obtain ⟨q1, q2⟩ := xorI_nat (subN_lt (subN a b) c) p2
  rw [← ha'] at q1 q2
  obtain ⟨p3, p4⟩ := shl32 (a := a') s1 h1
  obtain ⟨b', hb'⟩ : ∃ b', b' = Nat.xor (subN (subN b c) a') (Nat.mod (Nat.shiftLeft a' s1) 4294967296) := ⟨_, rfl⟩
  obtain ⟨q3, q4⟩ := xorI_nat (subN_lt (subN b c) a') p4
  rw [← hb'] at q3 q4
  obtain ⟨p5, p6⟩ := shr32 s2 h2 q4
  obtain ⟨c', hc'⟩ : ∃ c', c' = Nat.xor (subN (subN c a') b') (Nat.shiftRight b' s2) := ⟨_, rfl⟩
  obtain ⟨q5, q6⟩ := xorI_nat (subN_lt (subN c a') b') p6
  rw [← hc'] at q5 q6
  have e : mixRN s0 s1 s2 a b c = (a', b', c') := by
    unfold mixRN
    simp only [fN_eq, ← ha', ← hb', ← hc']
  rw [e]
  refine ⟨?_, q2, q4, q6⟩
  unfold mixR toI
  simp only
  rw [wrap_sub ha hb, wrap_sub (subN_lt a b) hc, p1, q1, wrap_sub hb hc, wrap_sub (subN_lt b c) q2, p3, q3, wrap_sub hc q2, wrap_sub (subN_lt c a') q4, p5, q5]
theorem mix3N_ok {x : N3} (h : lt3 x) : mix3 (toI x) = toI (mix3N x) ∧ lt3 (mix3N x) := by
  obtain ⟨a, b, c⟩ := x
  obtain ⟨e1, l1⟩ := mixRN_ok (s0 := 13) (s1 := 8) (s2 := 13) (by decide) (by decide) (by decide) h.1 h.2.1 h.2.2
  obtain ⟨a1, b1, c1⟩ : N3 := mixRN 13 8 13 a b c
  unfold mix3 mixN mix3N
  simp only
  generalize hx1 : mixRN 13 8 13 a b c = x1 at *
  obtain ⟨a1, b1, c1⟩ := x1
  obtain ⟨e2, l2⟩ := mixRN_ok (s0 := 12) (s1 := 16) (s2 := 5) (by decide) (by decide) (by decide) l1.1 l1.2.1 l1.2.2
  simp only
  generalize hx2 : mixRN 12 16 5 a1 b1 c1 = x2 at *
  obtain ⟨a2, b2, c2⟩ := x2
  obtain ⟨e3, l3⟩ := mixRN_ok (s0 := 3) (s1 := 10) (s2 := 15) (by decide) (by decide) (by decide) l2.1 l2.2.1 l2.2.2
  simp only
  refine ⟨?_, l3⟩
  rw [← e3, ← e2, ← e1]
  rfl
section
variable {M : I3 → I3} {G : N3 → N3}
def GoodG (M : I3 → I3) (G : N3 → N3) : Prop := ∀ x, lt3 x → M (toI x) = toI (G x) ∧ lt3 (G x)
def h2M (M : I3 → I3) (a b w : Int) : Int :=
  let t := M (a, b, w)
  let u := M (231232, t.1, t.2.2)
  (M (t.2.1, 1232, u.2.2)).2.2
def h2G (G : N3 → N3) (a b w : Nat) : Nat := match G (a, b, w) with
  | (ta, tb, tc) => match G (231232, ta, tc) with
    | (_, _, uc) => (G (tb, 1232, uc)).2.2
theorem h2_ok (hG : GoodG M G) {a b w : Nat} (ha : a < 4294967296) (hb : b < 4294967296) (hw : w < 4294967296) : h2M M (a : Int) (b : Int) (w : Int) = ((h2G G a b w : Nat) : Int) ∧ h2G G a b w < 4294967296 := by
  obtain ⟨e1, l1⟩ := hG (a, b, w) ⟨ha, hb, hw⟩
  have f1 : M ((a : Int), (b : Int), (w : Int)) = toI (G (a, b, w)) := e1
  unfold h2M h2G
  rw [f1]
  generalize G (a, b, w) = t at l1
  obtain ⟨ta, tb, tc⟩ := t
  obtain ⟨e2, l2⟩ := hG (231232, ta, tc) ⟨(by decide : 231232 < 4294967296), l1.1, l1.2.2⟩
  have f2 : M (231232, (ta : Int), (tc : Int)) = toI (G (231232, ta, tc)) := e2
  simp only [toI]
  rw [f2]
  generalize G (231232, ta, tc) = u at l2
  obtain ⟨ua, ub, uc⟩ := u
  obtain ⟨e3, l3⟩ := hG (tb, 1232, uc) ⟨l1.2.1, (by decide : 1232 < 4294967296), l2.2.2⟩
  have f3 : M ((tb : Int), 1232, (uc : Int)) = toI (G (tb, 1232, uc)) := e3
  simp only [toI]
  rw [f3]
  exact ⟨rfl, l3.2.2⟩
def h3M (M : I3 → I3) (a b c w : Int) : Int :=
  let t := M (a, b, w)
  let u := M (c, 231232, t.2.2)
  let v := M (1232, t.1, u.2.2)
  let w := M (t.2.1, u.2.1, v.2.2)
  (M (v.1, u.1, w.2.2)).2.2
def h3G (G : N3 → N3) (a b c w : Nat) : Nat := match G (a, b, w) with
  | (ta, tb, tc) => match G (c, 231232, tc) with
    | (ua, ub, uc) => match G (1232, ta, uc) with
      | (va, _, vc) => match G (tb, ub, vc) with
        | (_, _, wc) => (G (va, ua, wc)).2.2
theorem h3_ok (hG : GoodG M G) {a b c w : Nat} (ha : a < 4294967296) (hb : b < 4294967296) (hc : c < 4294967296) (hw : w < 4294967296) : h3M M (a : Int) (b : Int) (c : Int) (w : Int) = ((h3G G a b c w : Nat) : Int) ∧ h3G G a b c w < 4294967296 := by
  obtain ⟨e1, l1⟩ := hG (a, b, w) ⟨ha, hb, hw⟩
  have f1 : M ((a : Int), (b : Int), (w : Int)) = toI (G (a, b, w)) := e1
  unfold h3M h3G
  rw [f1]
  generalize G (a, b, w) = t at l1
  obtain ⟨ta, tb, tc⟩ := t
  obtain ⟨e2, l2⟩ := hG (c, 231232, tc) ⟨hc, (by decide : 231232 < 4294967296), l1.2.2⟩
  have f2 : M ((c : Int), 231232, (tc : Int)) = toI (G (c, 231232, tc)) := e2
  simp only [toI]
  rw [f2]
  generalize G (c, 231232, tc) = u at l2
  obtain ⟨ua, ub, uc⟩ := u
  obtain ⟨e3, l3⟩ := hG (1232, ta, uc) ⟨(by decide : 1232 < 4294967296), l1.1, l2.2.2⟩
  have f3 : M (1232, (ta : Int), (uc : Int)) = toI (G (1232, ta, uc)) := e3
  simp only [toI]
  rw [f3]
  generalize G (1232, ta, uc) = v at l3
  obtain ⟨va, vb, vc⟩ := v
  obtain ⟨e4, l4⟩ := hG (tb, ub, vc) ⟨l1.2.1, l2.2.1, l3.2.2⟩
  have f4 : M ((tb : Int), (ub : Int), (vc : Int)) = toI (G (tb, ub, vc)) := e4
  simp only [toI]
  rw [f4]
  generalize G (tb, ub, vc) = z at l4
  obtain ⟨za, zb, zc⟩ := z
  obtain ⟨e5, l5⟩ := hG (va, ua, zc) ⟨l3.1, l2.1, l4.2.2⟩
  have f5 : M ((va : Int), (ua : Int), (zc : Int)) = toI (G (va, ua, zc)) := e5
  simp only [toI]
  rw [f5]
  exact ⟨rfl, l5.2.2⟩
end
def hash2N (a b : Nat) : Nat := h2G mix3N a b (Nat.xor (Nat.xor 1315423911 a) b)
def hash3N (a b c : Nat) : Nat := h3G mix3N a b c (Nat.xor (Nat.xor (Nat.xor 1315423911 a) b) c)
theorem hash2N_ok {a b : Nat} (ha : a < 4294967296) (hb : b < 4294967296) : hash2F (a : Int) (b : Int) = ((hash2N a b : Nat) : Int) ∧ hash2N a b < 4294967296 := by
  obtain ⟨x1, y1⟩ := xorI_nat (a := 1315423911) (by decide) ha
  obtain ⟨x2, y2⟩ := xorI_nat y1 hb
  have e0 : xorI .u32 (xorI .u32 1315423911 (a : Int)) (b : Int) = ((Nat.xor (Nat.xor 1315423911 a) b : Nat) : Int) := by
    rw [← x2, ← x1]; rfl
  have key := h2_ok (M := mix3) (G := mix3N) (fun x hx => mix3N_ok hx) ha hb y2
  rw [← e0] at key
  exact key
theorem hash3N_ok {a b c : Nat} (ha : a < 4294967296) (hb : b < 4294967296) (hc : c < 4294967296) : hash3F (a : Int) (b : Int) (c : Int) = ((hash3N a b c : Nat) : Int) ∧ hash3N a b c < 4294967296 := by
  obtain ⟨x1, y1⟩ := xorI_nat (a := 1315423911) (by decide) ha
  obtain ⟨x2, y2⟩ := xorI_nat y1 hb
  obtain ⟨x3, y3⟩ := xorI_nat y2 hc
  have e0 : xorI .u32 (xorI .u32 (xorI .u32 1315423911 (a : Int)) (b : Int)) (c : Int) = ((Nat.xor (Nat.xor (Nat.xor 1315423911 a) b) c : Nat) : Int) := by
    rw [← x3, ← x2, ← x1]; rfl
  have key := h3_ok (M := mix3) (G := mix3N) (fun x hx => mix3N_ok hx) ha hb hc y3
  rw [← e0] at key
  exact key
/-! The logarithm. -/
def lnLN : Nat → Nat → Nat → Nat
  | 0, _, o => o
  | n + 1, y, o => fN (Nat.shiftRight (Nat.mul y y) 31) fun y => bif Nat.ble 4294967296 y then fN (Nat.shiftRight y 1) fun y => fN (Nat.add o (Nat.shiftLeft 1 n)) fun o => lnLN n y o else lnLN n y o
def lnN (u : Nat) : Nat := fN (Nat.succ u) fun x => fN (Nat.log2 x) fun e => lnLN 44 (Nat.shiftLeft x (Nat.sub 31 e)) (Nat.shiftLeft e 44)
theorem lnLN_ok : ∀ (n : Nat) (y o : Nat), n ≤ 44 → y < 4294967296 → o + 2 ^ n ≤ 2 ^ 60 → (lnL n ((y : Int), (o : Int))).2 = ((lnLN n y o : Nat) : Int) ∧ lnLN n y o < 2 ^ 60
  | 0, y, o, _, _, ho => ⟨rfl, by have : lnLN 0 y o = o := rfl; rw [this]; simp at ho; omega⟩
  | n + 1, y, o, hn, hy, ho => by
    have hp : (2 : Nat) ^ (n + 1) = 2 ^ n + 2 ^ n := by rw [Nat.pow_succ]; omega
    have h60 : (2 : Nat) ^ 60 = 1152921504606846976 := by decide
    rw [hp, h60] at ho
    obtain ⟨q, hq⟩ : ∃ q, q = (2 : Nat) ^ n := ⟨_, rfl⟩
    rw [← hq] at ho
    have hyy : y * y < 18446744073709551616 := by
      have : y * y ≤ 4294967295 * 4294967295 := Nat.mul_le_mul (by omega) (by omega)
      omega
    have e1 : IntKind.u64.wrap ((y : Int) * (y : Int)) = ((y * y : Nat) : Int) := by
      rw [show ((y : Int) * (y : Int)) = ((y * y : Nat) : Int) from (Int.natCast_mul y y).symm]
      exact wrap_u64 (by omega) (by omega)
    obtain ⟨z, hz⟩ : ∃ z, z = y * y / 2 ^ 31 := ⟨_, rfl⟩
    have e2 : shrI .u64 ((y * y : Nat) : Int) 31 = (z : Int) := by rw [hz]; exact shr_nat (y * y) 31 (by decide)
    have e3 : Nat.shiftRight (Nat.mul y y) 31 = z := by rw [hz]; exact Nat.shiftRight_eq_div_pow _ _
    have hz2 : z < 8589934592 := by rw [hz]; omega
    have key : lnL (n + 1) ((y : Int), (o : Int)) = lnL n (lnS n ((y : Int), (o : Int))) := rfl
    rw [key]
    unfold lnS lnLN
    simp only [e1, e2, e3, fN_eq]
    by_cases hge : 4294967296 ≤ z
    · rw [if_pos (by omega), show Nat.ble 4294967296 z = true from Nat.ble_eq.mpr hge]
      simp only [cond_true]
      have e4 : shrI .u64 (z : Int) 1 = ((z / 2 : Nat) : Int) := shr_nat z 1 (by decide)
      have e5 : Nat.shiftRight z 1 = z / 2 := Nat.shiftRight_eq_div_pow _ _
      have e6 : shlI .i64 1 (n : Int) = (q : Int) := by
        unfold shlI
        have : min (Int.toNat (n : Int)) (IntKind.bits .i64) = n := by simp [IntKind.bits]; omega
        rw [this]
        have h2 : ((2 ^ n : Nat) : Int) = (2 : Int) ^ n := by exact Int.natCast_pow 2 n
        rw [Int.one_mul, ← h2, ← hq]
        exact wrap_in (by omega) (by omega)
      have e7 : Nat.shiftLeft 1 n = q := by rw [show Nat.shiftLeft 1 n = 1 * 2 ^ n from Nat.shiftLeft_eq 1 n, Nat.one_mul, hq]
      have e8 : IntKind.i64.wrap ((o : Int) + (q : Int)) = ((o + q : Nat) : Int) := by
        rw [show ((o : Int) + (q : Int)) = ((o + q : Nat) : Int) from (Int.natCast_add o q).symm]
        exact wrap_in (by omega) (by omega)
      rw [e4, e5, e6, e7, e8]
      exact lnLN_ok n (z / 2) (o + q) (by omega) (by omega) (by rw [← hq, h60]; omega)
    · rw [if_neg (by omega), show Nat.ble 4294967296 z = false from Bool.eq_false_iff.mpr fun h => hge (Nat.ble_eq.mp h)]
      simp only [cond_false]
      exact lnLN_ok n z o (by omega) (by omega) (by rw [← hq, h60]; omega)
theorem lnN_ok {u : Nat} (hu : u ≤ 65535) : lnF (u : Int) = ((lnN u : Nat) : Int) ∧ lnN u < 2 ^ 60 := by
  have hX : clampU (u : Int) = u + 1 := by
    unfold clampU
    rw [if_neg (by omega), if_neg (by omega)]
    rfl
  obtain ⟨e, he⟩ : ∃ e, e = Nat.log2 (u + 1) := ⟨_, rfl⟩
  have hl : e < 17 := by rw [he]; exact (Nat.log2_lt (by omega)).2 (by omega)
  have hlt : u + 1 < 2 ^ (e + 1) := by rw [he]; exact Nat.lt_log2_self
  have he2 : Nat.log2 (Nat.succ u) = e := he.symm
  unfold lnF lnN
  rw [hX]
  simp only [fN_eq]
  rw [he2]
  have e1 : IntKind.i64.wrap (31 - (e : Int)) = ((31 - e : Nat) : Int) := (wrap_in (by omega) (by omega)).trans (by omega)
  have hb : (u + 1) * 2 ^ (31 - e) < 4294967296 := by
    have h1 : (u + 1) * 2 ^ (31 - e) < 2 ^ (e + 1) * 2 ^ (31 - e) := Nat.mul_lt_mul_of_pos_right hlt (Nat.two_pow_pos _)
    rw [← Nat.pow_add, show e + 1 + (31 - e) = 32 by omega] at h1
    exact h1
  have e2 : shlI .u64 ((u + 1 : Nat) : Int) ((31 - e : Nat) : Int) = (((u + 1) * 2 ^ (31 - e) : Nat) : Int) := by
    rw [shl_nat (u + 1) (31 - e) (by omega) _ rfl]
    exact wrap_u64 (by omega) (by omega)
  have e3 : shlI .i64 (e : Int) 44 = ((e * 2 ^ 44 : Nat) : Int) := by
    unfold shlI
    have : min (Int.toNat (44 : Int)) (IntKind.bits .i64) = 44 := by decide
    rw [this, show ((e : Int) * 2 ^ 44) = ((e * 2 ^ 44 : Nat) : Int) by rw [Int.natCast_mul]; rfl]
    exact wrap_in (by omega) (by omega)
  have e4 : Nat.shiftLeft (Nat.succ u) (Nat.sub 31 e) = (u + 1) * 2 ^ (31 - e) := Nat.shiftLeft_eq _ _
  have e5 : Nat.shiftLeft e 44 = e * 2 ^ 44 := Nat.shiftLeft_eq _ _
  rw [e1, e2, e3, e4, e5]
  exact lnLN_ok 44 _ _ (by decide) hb (by omega)
/-! As the sums have them. -/
def okU : Int → Bool
  | .ofNat n => Nat.blt n 4294967296
  | _ => false
theorem okU_out {a : Int} (h : okU a = true) : ∃ n : Nat, a = (n : Int) ∧ n < 4294967296 := by
  cases a with
  | ofNat n => exact ⟨n, rfl, Nat.blt_eq.mp h⟩
  | negSucc n => cases h
def hash2V (a b : Int) : Int := bif okU a && okU b then fN (hash2N a.toNat b.toNat) fun n => Int.ofNat n else hash2F a b
def hash3V (a b c : Int) : Int := bif okU a && (okU b && okU c) then fN (hash3N a.toNat b.toNat c.toNat) fun n => Int.ofNat n else hash3F a b c
def okL : Int → Bool
  | .ofNat n => Nat.ble n 65535
  | _ => false
def lnV (u : Int) : Int := bif okL u then fN (lnN u.toNat) fun n => Int.ofNat n else lnF u
theorem hash2V_eq (a b : Int) : hash2V a b = hash2F a b := by
  unfold hash2V
  cases h : okU a && okU b with
  | false => rfl
  | true =>
    simp only [Bool.and_eq_true] at h
    obtain ⟨n, rfl, hn⟩ := okU_out h.1
    obtain ⟨m, rfl, hm⟩ := okU_out h.2
    rw [cond_true, fN_eq, (hash2N_ok hn hm).1]
    rfl
theorem hash3V_eq (a b c : Int) : hash3V a b c = hash3F a b c := by
  unfold hash3V
  cases h : okU a && (okU b && okU c) with
  | false => rfl
  | true =>
    simp only [Bool.and_eq_true] at h
    obtain ⟨n, rfl, hn⟩ := okU_out h.1
    obtain ⟨m, rfl, hm⟩ := okU_out h.2.1
    obtain ⟨k, rfl, hk⟩ := okU_out h.2.2
    rw [cond_true, fN_eq, (hash3N_ok hn hm hk).1]
    rfl
theorem lnV_eq (u : Int) : lnV u = lnF u := by
  unfold lnV
  cases h : okL u with
  | false => rfl
  | true =>
    cases u with
    | negSucc n => cases h
    | ofNat n =>
      rw [cond_true, fN_eq]
      exact (lnN_ok (Nat.ble_eq.mp h)).1.symm
end Go.Proofs.YtkgbeihcepociaaDoor.Ex
end

section

namespace Go.Proofs
open Go.Shelf
def Tryd.laysM171_ren : Go.Shelf.Ren := ⟨fun | 171 => 30 | 243 => 47 | 246 => 58 | 283 => 78 | 284 => 79 | 285 => 80 | 286 => 81 | 129 => 71 | 317 => 90 | 318 => 91 | 319 => 92 | 320 => 93 | 337 => 96 | 338 => 97 | n => n, fun | 3 => 3 | 9 => 9 | 2 => 2 | 4 => 4 | 171 => 102 | 0 => 0 | 53 => 86 | 37 => 104 | 5 => 5 | 173 => 105 | 212 => 134 | 51 => 27 | 20 => 20 | 213 => 135 | 46 => 76 | 232 => 144 | 233 => 145 | n => n, fun | 17 => 0 | 18 => 1 | 19 => 2 | n => n⟩
theorem Tryd.laysM171 : Go.Proofs.LaysM.n171 Tryd.prog Tryd.laysM171_ren := {
  mixed := by kernel_rfl,
  f129 := Tryd.func71.trans (congrArg some (by kernel_rfl)),
  f171 := Tryd.func30.trans (congrArg some (by kernel_rfl)),
  f243 := Tryd.func47.trans (congrArg some (by kernel_rfl)),
  f246 := Tryd.func58.trans (congrArg some (by kernel_rfl)),
  f283 := Tryd.func78.trans (congrArg some (by kernel_rfl)),
  f284 := Tryd.func79.trans (congrArg some (by kernel_rfl)),
  f285 := Tryd.func80.trans (congrArg some (by kernel_rfl)),
  f286 := Tryd.func81.trans (congrArg some (by kernel_rfl)),
  f317 := Tryd.func90.trans (congrArg some (by kernel_rfl)),
  f318 := Tryd.func91.trans (congrArg some (by kernel_rfl)),
  f319 := Tryd.func92.trans (congrArg some (by kernel_rfl)),
  f320 := Tryd.func93.trans (congrArg some (by kernel_rfl)),
  f337 := Tryd.func96.trans (congrArg some (by kernel_rfl)),
  f338 := Tryd.func97.trans (congrArg some (by kernel_rfl)),
  t0 := Tryd.underlying0,
  a0 := Tryd.isAgg0,
  z0 := Tryd.sizeOf0,
  v0 := Tryd.zeroValue0,
  t2 := Tryd.underlying2,
  a2 := Tryd.isAgg2,
  z2 := Tryd.sizeOf2,
  v2 := Tryd.zeroValue2,
  t3 := Tryd.underlying3,
  a3 := Tryd.isAgg3,
  z3 := Tryd.sizeOf3,
  v3 := Tryd.zeroValue3,
  t4 := Tryd.underlying4,
  a4 := Tryd.isAgg4,
  z4 := Tryd.sizeOf4,
  v4 := Tryd.zeroValue4,
  t5 := Tryd.underlying5,
  a5 := Tryd.isAgg5,
  z5 := Tryd.sizeOf5,
  v5 := Tryd.zeroValue5,
  t9 := Tryd.underlying9,
  a9 := Tryd.isAgg9,
  z9 := Tryd.sizeOf9,
  v9 := Tryd.zeroValue9,
  t20 := Tryd.underlying20,
  a20 := Tryd.isAgg20,
  z20 := Tryd.sizeOf20,
  v20 := Tryd.zeroValue20,
  t37 := Tryd.underlying104,
  a37 := Tryd.isAgg104,
  z37 := Tryd.sizeOf104,
  v37 := Tryd.zeroValue104,
  t46 := Tryd.underlying76,
  a46 := Tryd.isAgg76,
  z46 := Tryd.sizeOf76,
  v46 := Tryd.zeroValue76,
  t51 := Tryd.underlying27,
  a51 := Tryd.isAgg27,
  z51 := Tryd.sizeOf27,
  v51 := Tryd.zeroValue27,
  t53 := Tryd.underlying86,
  a53 := Tryd.isAgg86,
  z53 := Tryd.sizeOf86,
  v53 := Tryd.zeroValue86,
  t171 := Tryd.underlying102,
  a171 := Tryd.isAgg102,
  z171 := Tryd.sizeOf102,
  v171 := Tryd.zeroValue102,
  t173 := Tryd.underlying105,
  a173 := Tryd.isAgg105,
  z173 := Tryd.sizeOf105,
  v173 := Tryd.zeroValue105,
  t212 := Tryd.underlying134,
  a212 := Tryd.isAgg134,
  z212 := Tryd.sizeOf134,
  v212 := Tryd.zeroValue134,
  t213 := Tryd.underlying135,
  a213 := Tryd.isAgg135,
  z213 := Tryd.sizeOf135,
  t232 := Tryd.underlying144,
  a232 := Tryd.isAgg144,
  z232 := Tryd.sizeOf144,
  v232 := Tryd.zeroValue144,
  t233 := Tryd.underlying145,
  a233 := Tryd.isAgg145,
  z233 := Tryd.sizeOf145,
  v233 := Tryd.zeroValue145,
  g17 := by kernel_rfl,
  g18 := by kernel_rfl,
  g19 := by kernel_rfl,
  i0 := by kernel_rfl,
  i2 := by kernel_rfl,
  i3 := by kernel_rfl,
  i4 := by kernel_rfl,
  i5 := by kernel_rfl,
  i9 := by kernel_rfl,
  i20 := by kernel_rfl,
  i37 := by kernel_rfl,
  i46 := by kernel_rfl,
  i51 := by kernel_rfl,
  i53 := by kernel_rfl,
  i171 := by kernel_rfl,
  i173 := by kernel_rfl,
  i212 := by kernel_rfl,
  i232 := by kernel_rfl,
  i233 := by kernel_rfl,
  m17 := by kernel_rfl,
  m18 := by kernel_rfl,
  m19 := by kernel_rfl }
end Go.Proofs
end

section

set_option linter.unusedSimpArgs false
set_option linter.unusedVariables false
namespace Go.Proofs.YtkgbeihcepociaaDoor.Ex
open Go Go.RowKit
theorem follows_mixed : Tryd.prog.follows .mixedOrders = true := by kernel_rfl
def sHash2 : List AV → AH → Option (AV × AH)
  | [.ptr _ _, .lit (.int .u32 a), .lit (.int .u32 b)], h => some (.lit (.int .u32 (hash2V a b)), h)
  | _, _ => none
def sHash3 : List AV → AH → Option (AV × AH)
  | [.ptr _ _, .lit (.int .u32 a), .lit (.int .u32 b), .lit (.int .u32 c)], h => some (.lit (.int .u32 (hash3V a b c)), h)
  | _, _ => none
def sHash2R : List AV → AH → Option (AV × AH)
  | [.lit (.int .u32 a), .lit (.int .u32 b)], h => some (.lit (.int .u32 (hash2V a b)), h)
  | _, _ => none
def sHash3R : List AV → AH → Option (AV × AH)
  | [.lit (.int .u32 a), .lit (.int .u32 b), .lit (.int .u32 c)], h => some (.lit (.int .u32 (hash3V a b c)), h)
  | _, _ => none
def sLn : List AV → AH → Option (AV × AH)
  | [.lit (.int .i64 u)], h => some (.lit (.int .i64 (lnV u)), h)
  | _, _ => none
/-- What the sums of the first kind know. -/
def S01 : Sums := fun f =>
  bif Nat.beq f 76 then some sHash2 else
  bif Nat.beq f 75 then some sHash3 else
  bif Nat.beq f 45 then some sHash2R else
  bif Nat.beq f 56 then some sHash3R else
  bif Nat.beq f 88 then some sLn else
  bif Nat.beq f 77 then some sLn else none
theorem bif_some {α : Type} {b : Bool} {x : α} {y : Option α} {z : α} (h : (bif b then some x else y) = some z) : (b = true ∧ x = z) ∨ y = some z := by
  cases b
  · exact .inr h
  · exact .inl ⟨rfl, Option.some.inj h⟩
theorem sums_ok01 (ρ : Nat → Value) (fl : Nat) : SumsOK Tryd.prog ρ fl S01 := by
  intro f g args h v h' hs hg μ w args' hr ha
  unfold S01 at hs
  have key : ∀ (f : FuncId) (x : Value), scal x = true → (WC Tryd.prog (tabOf Tryd.prog NT0) S00 f args h fun r h' => Ext h.n h h' ∧ r = .lit x) → Calls Tryd.prog f args'.toArray w fun e w' => ∃ μ' v', e = .returned v' ∧ Eff Tryd.prog ρ fl μ h w μ' h w' ∧ rel ρ μ' w' (.lit x) v' :=
    fun f x hx hw => sum_of_wc tab_sound noNG follows_mixed (sums_ok00 ρ fl) hx hw hr ha
  rcases bif_some hs with ⟨h1, rfl⟩ | hs
  · obtain rfl := Nat.eq_of_beq_eq_true h1
    unfold sHash2 at hg
    split at hg
    case h_2 => cases hg
    cases hg
    rw [hash2V_eq]; exact key _ _ rfl (hash2_x _ _)
  rcases bif_some hs with ⟨h1, rfl⟩ | hs
  · obtain rfl := Nat.eq_of_beq_eq_true h1
    unfold sHash3 at hg
    split at hg
    case h_2 => cases hg
    cases hg
    rw [hash3V_eq]; exact key _ _ rfl (hash3_x _ _ _)
  rcases bif_some hs with ⟨h1, rfl⟩ | hs
  · obtain rfl := Nat.eq_of_beq_eq_true h1
    unfold sHash2R at hg
    split at hg
    case h_2 => cases hg
    cases hg
    rw [hash2V_eq]; exact key _ _ rfl (hash2Ref_x _ _)
  rcases bif_some hs with ⟨h1, rfl⟩ | hs
  · obtain rfl := Nat.eq_of_beq_eq_true h1
    unfold sHash3R at hg
    split at hg
    case h_2 => cases hg
    cases hg
    rw [hash3V_eq]; exact key _ _ rfl (hash3Ref_x _ _ _)
  rcases bif_some hs with ⟨h1, rfl⟩ | hs
  · obtain rfl := Nat.eq_of_beq_eq_true h1
    unfold sLn at hg
    split at hg
    case h_2 => cases hg
    cases hg
    rw [lnV_eq]; exact key _ _ rfl ((ln_x _).mono fun r h' ⟨e, q⟩ => ⟨e ▸ Ext.refl _ _, q⟩)
  rcases bif_some hs with ⟨h1, rfl⟩ | hs
  · obtain rfl := Nat.eq_of_beq_eq_true h1
    unfold sLn at hg
    split at hg
    case h_2 => cases hg
    cases hg
    rw [lnV_eq]; exact key _ _ rfl ((lnRef_x _).mono fun r h' ⟨e, q⟩ => ⟨e ▸ Ext.refl _ _, q⟩)
  cases hs
/-! Numbers as texts, summed up (the library's table must stand in block 1). -/
def uintsL : List AV → Option (List Int)
  | [] => some []
  | .lit (.int .u64 x) :: r => (uintsL r).map (x :: ·)
  | _ :: _ => none
def tabL : List AV := Lib.pow10Tab.map fun z => .lit (.int .u64 z)
def sItoa : List AV → AH → Option (AV × AH)
  | [.lit (.int .i64 n)], h => match h.at 1 with
    | some (.frz l _) => bif decide (uintsL l = some Lib.pow10Tab) && (decide (-9223372036854775808 ≤ n) && decide (n ≤ 9223372036854775807)) then some (.lit (.string ⟨(Lib.itoa n).toArray⟩), h) else none
    | _ => none
  | _, _ => none
theorem uintsL_eq : ∀ {l : List AV} {xs : List Int}, uintsL l = some xs → l = xs.map fun z => AV.lit (.int .u64 z)
  | [], xs, h => by cases h; rfl
  | a :: r, xs, h => by
    unfold uintsL at h
    split at h
    · rename_i h0; cases h0
    · rename_i x r' h0
      cases h0
      cases hr : uintsL r with
      | none => rw [hr] at h; cases h
      | some ys =>
        rw [hr] at h
        cases h
        rw [uintsL_eq hr]
        rfl
    · cases h
theorem sItoa_ok {ρ : Nat → Value} {fl : Nat} (hρ : ρ 1000000 = .int .i64 0) (hρ1 : ρ 1000001 = .int .i64 20) {μ : Mu} {h h' : AH} {w : World} {v : AV} {args : List AV} {args' : List Value} (hg : sItoa args h = some (v, h')) (hr : HR Tryd.prog ρ fl μ h w) (ha : rels ρ μ w args args') :
    Calls Tryd.prog 30 args'.toArray w fun e w' => ∃ μ' v', e = .returned v' ∧ Eff Tryd.prog ρ fl μ h w μ' h' w' ∧ rel ρ μ' w' v v' := by
  unfold sItoa at hg
  split at hg
  case h_2 => cases hg
  rename_i n
  split at hg
  case h_2 => cases hg
  rename_i l e hb
  cases hc : (decide (uintsL l = some Lib.pow10Tab) && (decide (-9223372036854775808 ≤ n) && decide (n ≤ 9223372036854775807))) with
  | false => rw [hc] at hg; cases hg
  | true =>
  rw [hc] at hg
  cases hg
  simp only [Bool.and_eq_true, decide_eq_true_eq] at hc
  obtain ⟨hl, h0, h1⟩ := hc
  obtain ⟨v1, vs, rfl, r1, r2⟩ := rels_cons_inv ha
  obtain rfl := rels_nil_inv r2
  obtain rfl : v1 = .int .i64 n := rel_lit_inv r1
  have hr' : HRL Tryd.prog ρ fl μ h.L w := hr
  obtain ⟨hμ, cur, e', fz, hw, hsz⟩ := hr'.pin 0 hρ
  rw [hρ1] at hsz
  have hsz : cur.size = 20 := by injection hsz with _ h; omega
  obtain ⟨-, -, o, hw2, hrel⟩ := hr'.obj 1 _ 0 (.frz l e) hμ (by rw [L_at]; exact hb)
  obtain rfl : Obj.cells cur e' fz = o := Option.some.inj (hw.symm.trans hw2)
  have hlq := uintsL_eq hl
  have htab : Lib.TabIs Tryd.prog w "internal/strconv.uint64pow10" .u64 Lib.pow10Tab := by
    unfold Lib.TabIs World.var?
    rw [show Tryd.prog.globalNamed "internal/strconv.uint64pow10" = some 0 by kernel_rfl]
    show (match w.heap[0]? with | some (.cells cs _ _) => some cs | _ => none) = _
    have hw0 : w.heap[0]? = some (.cells cur e' fz) := hw
    rw [hw0]
    show some cur = _
    congr 1
    obtain ⟨cur2, fz2, he, hle, hcell⟩ := hrel
    obtain ⟨rfl, -, -⟩ := Obj.cells.inj he
    apply Array.ext'
    apply List.ext_getElem?
    intro i
    by_cases hi : i < 20
    · have hz : l[i]? = some (.lit (.int .u64 (Lib.pow10Tab.getD i 0))) := by
        rw [hlq, List.getElem?_map, List.getD_eq_getElem?_getD, List.getElem?_eq_getElem (show i < Lib.pow10Tab.length from hi)]
        rfl
      obtain ⟨v, hv, hvr⟩ := hcell i _ hz
      rw [rel_lit_inv hvr, Nat.zero_add] at hv
      rw [Array.getElem?_toList, hv, List.getElem?_map, List.getD_eq_getElem?_getD, List.getElem?_eq_getElem (show i < Lib.pow10Tab.length from hi)]
      rfl
    · rw [List.getElem?_eq_none (by rw [Array.length_toList]; omega), List.getElem?_eq_none (by rw [List.length_map]; show 20 ≤ i; omega)]
  refine (Any.strconv_Itoa Tryd.laysM171 n h0 h1 w htab).mono fun e w' hy => ?_
  obtain ⟨rfl, k, os, rfl⟩ := hy
  have e1 := Eff.drew hr k
  have e2 := eff_grow e1.hr os
  exact ⟨μ, _, rfl, Eff.trans hr e1 e2, rel_lit rfl⟩
def S0 : Sums := fun f => bif Nat.beq f 30 then some sItoa else bif Nat.beq f 36 then some sSort else bif Nat.beq f 38 then some sCompact else S01 f
/-- Values from outside: where the library's table lies, and how long it is. -/
def ρT : Nat → Value := fun i => bif Nat.beq i 1000000 then .int .i64 0 else bif Nat.beq i 1000001 then .int .i64 20 else default
theorem sums_ok (fl : Nat) : SumsOK Tryd.prog ρT fl S0 := by
  intro f g args h v h' hs hg μ w args' hr ha
  unfold S0 at hs
  rcases bif_some hs with ⟨h1, rfl⟩ | hs
  · obtain rfl := Nat.eq_of_beq_eq_true h1
    exact sItoa_ok rfl rfl hg hr ha
  rcases bif_some hs with ⟨h1, rfl⟩ | hs
  · obtain rfl := Nat.eq_of_beq_eq_true h1
    exact sSort_ok hg hr ha
  rcases bif_some hs with ⟨h1, rfl⟩ | hs
  · obtain rfl := Nat.eq_of_beq_eq_true h1
    exact sCompact_ok hg hr ha
  · exact sums_ok01 ρT fl f g args h v h' hs hg μ w args' hr ha
theorem itoa_c {H : AH} {Q : AV → AH → Prop} {n : Int} {e : TypeId} (hT : H.at 1 = some (.frz tabL e)) (h0 : -9223372036854775808 ≤ n) (h1 : n ≤ 9223372036854775807) (hq : Q (.lit (.string ⟨(Lib.itoa n).toArray⟩)) H) : WC Tryd.prog (tabOf Tryd.prog NT0) S0 30 [.lit (.int .i64 n)] H Q :=
  WC_sum Tryd.func30 rfl (g := sItoa) rfl (by
    have hu : uintsL tabL = some Lib.pow10Tab := by decide
    simp only [sItoa, hT, hu, h0, h1, decide_true, Bool.and_self, cond_true]) hq
/-! Calls of what is summed up. -/
section
variable {H : AH} {Q : AV → AH → Prop}
theorem hash2_c {be oe : Nat} {a b : Int} (hq : Q (.lit (.int .u32 (hash2F a b))) H) : WC Tryd.prog (tabOf Tryd.prog NT0) S0 76 [.ptr be oe, .lit (.int .u32 a), .lit (.int .u32 b)] H Q :=
  WC_sum Tryd.func76 rfl (g := sHash2) rfl (by rw [show sHash2 [.ptr be oe, .lit (.int .u32 a), .lit (.int .u32 b)] H = some (.lit (.int .u32 (hash2V a b)), H) from rfl, hash2V_eq]) hq
theorem hash3_c {be oe : Nat} {a b c : Int} (hq : Q (.lit (.int .u32 (hash3F a b c))) H) : WC Tryd.prog (tabOf Tryd.prog NT0) S0 75 [.ptr be oe, .lit (.int .u32 a), .lit (.int .u32 b), .lit (.int .u32 c)] H Q :=
  WC_sum Tryd.func75 rfl (g := sHash3) rfl (by rw [show sHash3 [.ptr be oe, .lit (.int .u32 a), .lit (.int .u32 b), .lit (.int .u32 c)] H = some (.lit (.int .u32 (hash3V a b c)), H) from rfl, hash3V_eq]) hq
theorem ln_c {u : Int} (hq : Q (.lit (.int .i64 (lnF u))) H) : WC Tryd.prog (tabOf Tryd.prog NT0) S0 88 [.lit (.int .i64 u)] H Q :=
  WC_sum Tryd.func88 rfl (g := sLn) rfl (by rw [show sLn [.lit (.int .i64 u)] H = some (.lit (.int .i64 (lnV u)), H) from rfl, lnV_eq]) hq
end
end Go.Proofs.YtkgbeihcepociaaDoor.Ex
end

section

set_option linter.unusedSimpArgs false
set_option linter.unusedVariables false
set_option maxRecDepth 10000
namespace Go.Proofs.YtkgbeihcepociaaDoor.Ex
open Go
/-- A number in a list of numbers. -/
theorem IsSl.int {T : TT} {F : Nat → Prop} {h : AH} {v : AV} {xs : List Int} {e : TypeId} (hs : IsSl RInt F h v xs) (hA : isAggT T e = some false) (hS : sizeT T e = some 1) {i : Nat} (hi : i < xs.length) :
    loadA T h e (slB v) (slO v + i) = some (.lit (.int .i64 (xs.getD i 0))) := by
  obtain ⟨c, ⟨rfl, _⟩, h2⟩ := hs.get (T := T) (List.getElem?_eq_getElem hi)
  have := h2 e 1 0 hS (by omega) (by show 0 + 1 ≤ 1; omega)
  simp only [RInt, Nat.mul_one, Nat.add_zero] at this
  rw [this]
  simp [ldL, hA, hS, List.getD_eq_getElem?_getD, List.getElem?_eq_getElem hi]
def idxF (x : Int) : List Int → Int → Int
  | [], _ => -1
  | y :: r, i => if x = y then i else idxF x r (i + 1)
theorem idxF_mem (x : Int) : ∀ (l : List Int) (i : Int), 0 ≤ i → (0 ≤ idxF x l i ↔ x ∈ l)
  | [], i, hi => by simp [idxF]
  | y :: r, i, hi => by
    unfold idxF
    by_cases h : x = y
    · rw [if_pos h]; simp [h, hi]
    · rw [if_neg h, idxF_mem x r (i + 1) (by omega)]; simp [h]
theorem idxF_drop (x : Int) {xs : List Int} {i : Nat} (hi : i < xs.length) : idxF x (xs.drop i) i = if x = xs.getD i 0 then (i : Int) else idxF x (xs.drop (i + 1)) ((i + 1 : Nat) : Int) := by
  rw [List.drop_eq_getElem_cons hi, List.getD_eq_getElem?_getD, List.getElem?_eq_getElem hi, idxF]; rfl
theorem index_x {F : Nat → Prop} {H : AH} {v : AV} {xs : List Int} (x : Int) (hv : IsSl RInt F H v xs) (hl : xs.length < 2 ^ 62) :
    WC Tryd.prog (tabOf Tryd.prog NT0) S0 59 [v, .lit (.int .i64 x)] H fun r h' => h' = H ∧ r = .lit (.int .i64 (idxF x xs 0)) := by
  refine WC_fn Tryd.func59 rfl rfl ?_
  have s1 := hv.isSl
  have s2 := hv.lenD
  simp only [core, Nat.reduceAdd, Nat.reduceSub, Nat.reduceMul, Nat.reduceLT, Nat.reduceEqDiff, reduceCtorEq, Nat.reduceLeDiff, Int.reduceLE, Int.reduceLT, Int.reduceToNat, Tryd.ntmps59, s1, s2]
  refine WB_for xs.length (fun i t h => h = H ∧ idxF x (xs.drop i) i = idxF x xs 0 ∧ t.n = 19 ∧ t.get 0 = v ∧ t.get 1 = .lit (.int .i64 x) ∧ t.get 7 = .lit (.int .i64 xs.length) ∧ t.get 8 = .lit (.int .i64 i)) ?_ ?_ _ _ ?_
  · rintro i t h hlt hc ⟨rfl, hx, hn, g0, g1, g7, g8⟩ ih
    have hld := hv.int (T := tabOf Tryd.prog NT0) (e := 3) (by kernel_rfl) (by kernel_rfl) hlt
    have hw := wrap_succ hlt (by omega)
    simp only [core, Nat.reduceAdd, Nat.reduceSub, Nat.reduceMul, Nat.reduceLT, Nat.reduceEqDiff, reduceCtorEq, Nat.reduceLeDiff, Int.reduceLE, Int.reduceLT, Int.reduceToNat, s1, s2, hn, g0, g1, g7, g8, hlt, hc, hld, hw]
    rw [idxF_drop x hlt] at hx
    refine ⟨fun he => ?_, fun he => ?_⟩
    · rw [if_pos (by simpa using he)] at hx
      rw [hx]
    · refine ih _ _ ?_
      rw [if_neg (by simpa using he)] at hx
      simp only [core, Nat.reduceAdd, Nat.reduceSub, Nat.reduceMul, Nat.reduceLT, Nat.reduceEqDiff, reduceCtorEq, Nat.reduceLeDiff, Int.reduceLE, Int.reduceLT, Int.reduceToNat, hn, g0, g1, g7, g8]
      exact hx
  · rintro t h hc ⟨rfl, hx, hn, g0, g1, g7, g8⟩
    simp only [core, Nat.reduceAdd, Nat.reduceSub, Nat.reduceMul, Nat.reduceLT, Nat.reduceEqDiff, reduceCtorEq, Nat.reduceLeDiff, Int.reduceLE, Int.reduceLT, Int.reduceToNat, s1, s2, hn, g0, g1, g7, g8, hc]
    rw [← hx]
    simp [idxF]
  · simp only [core, Nat.reduceAdd, Nat.reduceSub, Nat.reduceMul, Nat.reduceLT, Nat.reduceEqDiff, reduceCtorEq, Nat.reduceLeDiff, Int.reduceLE, Int.reduceLT, Int.reduceToNat]
    simp
theorem contains_x {F : Nat → Prop} {H : AH} {v : AV} {xs : List Int} (x : Int) (hv : IsSl RInt F H v xs) (hl : xs.length < 2 ^ 62) :
    WC Tryd.prog (tabOf Tryd.prog NT0) S0 50 [v, .lit (.int .i64 x)] H fun r h' => h' = H ∧ r = .lit (.bool (xs.contains x)) := by
  refine WC_fn Tryd.func50 rfl rfl ?_
  simp only [core, Nat.reduceAdd, Nat.reduceSub, Nat.reduceMul, Nat.reduceLT, Nat.reduceEqDiff, reduceCtorEq, Nat.reduceLeDiff, Int.reduceLE, Int.reduceLT, Int.reduceToNat, Tryd.ntmps50]
  refine (index_x x hv hl).mono ?_
  rintro v h ⟨rfl, rfl⟩
  simp only [core, Nat.reduceAdd, Nat.reduceSub, Nat.reduceMul, Nat.reduceLT, Nat.reduceEqDiff, reduceCtorEq, Nat.reduceLeDiff, Int.reduceLE, Int.reduceLT, Int.reduceToNat, Tryd.ntmps50]
  have h1 := idxF_mem x xs 0 (by omega)
  congr 2
  rw [Bool.eq_iff_iff]
  simp [h1]
/-- A copy of a slice: its rows are new. -/
theorem fresh_append {α : Type} {R : Rep α} {T : TT} {F : Nat → Prop} {H : AH} {v zv : AV} {xs : List α} {t e by' : Nat} (hu : und T t = some (.slice e)) (hz : sizeT T e = some R.z) (hzv : zeroT T e = some zv) (hb : bytesT T e = some by') (hzl : zv.cells.length = R.z) (h0 : 0 < R.z) (h200 : R.z ≤ 200)
    (hr : IsSl R F H v xs) (hn : xs.length ≤ 4611686018427387904) (hy : xs.length * by' ≤ 140737488355328) {p : Nat} (hp : H.at p = some (.cells [] e)) :
    ∃ s' h', appendA T H t t (.sl p 0 0 (.kn 0)) v = some (s', h') ∧ Ext H.n H h' ∧ IsSl R (fun b => F b ∨ b = p ∨ H.n ≤ b) h' s' xs ∧ SlF (fun b => b = p ∨ H.n ≤ b) s' ∧ isNil s' = false := by
  obtain ⟨L, h1, h2, hc, h3⟩ := hr.out
  have e0 : L.length = xs.length := h3.1
  have hlt := at_lt hp
  rcases append_fresh (T := T) (h := H) (t := t) (tx := t) (e := e) (z := R.z) (by' := by') (zv := zv) (M := L) (p := p) (x := v) hu hu hz hzv hb hzl h0 h200 hp h1.src h1.len h1.1 h3.ones (by rw [e0]; exact hn) (by rw [e0]; exact hy) with ⟨hM, ha⟩ | ⟨hM, ha⟩
  · subst hM
    obtain rfl : xs = [] := List.eq_nil_of_length_eq_zero (by rw [← e0]; rfl)
    refine ⟨_, _, ha, Ext.refl _ _, .mk (L := []) ⟨by simp, .inr ⟨p, 0, _, [], rfl, by unfold getR; rw [hp], by simp [cut]⟩⟩ (fun b off n cap e => by cases e; exact .inr (.inl rfl)) (fun b off n cap e => by cases e; exact Nat.le_refl 0) .nil, fun b off n cap e => by cases e; exact .inl rfl, rfl⟩
  · refine ⟨_, _, ha, (Ext.refl _ _).push _ (Nat.le_refl _), .mk (L := L) ⟨h1.1, .inr ⟨H.n, 0, _, L.flatten, rfl, by unfold getR; rw [at_push_n], ?_⟩⟩ (fun b off n cap e => by cases e; exact .inr (.inr (Nat.le_refl _))) (fun b off n cap e => by cases e; rfl) (h3.lift fun b hb hlt => ⟨at_push_lt _ hlt, .inl hb⟩), fun b off n cap e => by cases e; exact .inr (Nat.le_refl _), rfl⟩
    unfold cut
    rw [if_pos (by rw [flat_len h1.1]; omega), List.drop_zero, ← flat_len h1.1, List.take_length]
theorem IsSl.empty {α : Type} {R : Rep α} {F : Nat → Prop} {H : AH} {v : AV} {xs : List α} (h : IsSl R F H v xs) (hn : isNil v = true) : xs = [] := by
  refine List.eq_nil_of_length_eq_zero ?_
  rw [← h.lenD]
  unfold isNil at hn
  split at hn
  · rfl
  · cases hn
theorem clone_x {F : Nat → Prop} {H : AH} {v : AV} {xs : List Int} (hv : IsSl RInt F H v xs) (hl : xs.length * 8 ≤ 140737488355328) :
    WC Tryd.prog (tabOf Tryd.prog NT0) S0 46 [v] H fun r h' => Ext H.n H h' ∧ IsSl RInt (fun b => H.n ≤ b) h' r xs ∧ isNil r = isNil v := by
  refine WC_fn Tryd.func46 rfl rfl ?_
  have s1 := hv.isSl
  have s2 := hv.lenD
  simp only [core, Nat.reduceAdd, Nat.reduceSub, Nat.reduceMul, Nat.reduceLT, Nat.reduceEqDiff, reduceCtorEq, Nat.reduceLeDiff, Int.reduceLE, Int.reduceLT, Int.reduceToNat, Tryd.ntmps46, s1, s2]
  refine ⟨fun he => ?_, fun he => ?_⟩
  · rw [he]
    obtain rfl := hv.empty he
    exact ⟨Ext.refl _ _, IsSl.nil, rfl⟩
  · have hv2 : IsSl RInt F (H.push (.cells [] 3)) v xs := hv.ext ((Ext.refl H.n H).push _ (Nat.le_refl _)) (Nat.le_refl _)
    refine WOp_app (fresh_append (T := tabOf Tryd.prog NT0) (by kernel_rfl) (by kernel_rfl) (zv := .lit (.int .i64 0)) (by kernel_rfl) (by' := 8) (by kernel_rfl) rfl (by decide) (by decide) hv2 (by omega) hl (at_push_n H _)) ?_
    rintro s' h' ⟨e1, e2, e3, e4⟩
    simp only [core, Nat.reduceAdd, Nat.reduceSub, Nat.reduceMul, Nat.reduceLT, Nat.reduceEqDiff, reduceCtorEq, Nat.reduceLeDiff, Int.reduceLE, Int.reduceLT, Int.reduceToNat]
    rw [he]
    refine ⟨((Ext.refl H.n H).push _ (Nat.le_refl _)).trans (e1.mono (by rw [n_push]; omega)), ?_, e4⟩
    obtain ⟨L, f1, f2, f3, f4⟩ := e2.out
    refine .mk f1 (fun b off n cap e => ?_) f3 ⟨f4.1, fun i c x h1 h2 => f4.2 i c x h1 h2⟩
    rcases e3 b off n cap e with rfl | hb
    · exact Nat.le_refl _
    · rw [n_push] at hb; omega
end Go.Proofs.YtkgbeihcepociaaDoor.Ex
end

section

set_option linter.unusedSimpArgs false
set_option linter.unusedVariables false
set_option maxRecDepth 10000
namespace Go.Proofs.YtkgbeihcepociaaDoor.Ex
open Go
structure OsdD where
  ex : Bool
  up : Bool
  weight : Int
  boot : Int
  upFrom : Int
  upThru : Int
  deriving DecidableEq
structure PoolD where
  id : Int
  size : Int
  min : Int
  pgs : Int
  deriving DecidableEq
structure BktD where
  id : Int
  kind : Int
  items : List Int
  weights : List Int
  deriving DecidableEq
structure MapD where
  epoch : Int
  osds : List OsdD
  pools : List PoolD
  buckets : List BktD
  leaf : Int
  deriving DecidableEq
def ROsd : Rep OsdD := RMap (fun x => (x.ex, x.up, x.weight, x.boot, x.upFrom, x.upThru)) (RPair RBool (RPair RBool (RPair RInt (RPair RInt (RPair RInt RInt)))))
def RPool : Rep PoolD := RMap (fun x => (x.id, x.size, x.min, x.pgs)) (RPair RInt (RPair RInt (RPair RInt RInt)))
def RBkt : Rep BktD := RMap (fun x => (x.id, x.kind, x.items, x.weights)) (RPair RInt (RPair RInt (RPair (RSl RInt) (RSl RInt))))
def RMp : Rep MapD := RMap (fun x => (x.epoch, x.osds, x.pools, x.buckets, x.leaf)) (RPair RInt (RPair (RSl ROsd) (RPair (RSl RPool) (RPair (RSl RBkt) RInt))))
section
variable {F : Nat → Prop} {h : AH} {c : List AV}
theorem RInt_is {x : Int} : RInt.is F h c x ↔ c = [.lit (.int .i64 x)] ∧ I64 x := Iff.rfl
theorem RSl_is {α : Type} {R : Rep α} {xs : List α} : (RSl R).is F h c xs ↔ ∃ v, c = [v] ∧ IsSl R F h v xs :=
  ⟨fun hh => by obtain ⟨v, L, rfl, h1⟩ := hh; exact ⟨v, rfl, v, L, rfl, h1⟩, fun ⟨v, e, hh⟩ => e ▸ hh⟩
theorem ROsd_is {x : OsdD} : ROsd.is F h c x ↔ c = [.lit (.bool x.ex), .lit (.bool x.up), .lit (.int .i64 x.weight), .lit (.int .i64 x.boot), .lit (.int .i64 x.upFrom), .lit (.int .i64 x.upThru)] ∧ I64 x.weight ∧ I64 x.boot ∧ I64 x.upFrom ∧ I64 x.upThru := by
  constructor
  · rintro ⟨_, _, rfl, rfl, _, _, rfl, rfl, _, _, rfl, ⟨rfl, h1⟩, _, _, rfl, ⟨rfl, h2⟩, _, _, rfl, ⟨rfl, h3⟩, rfl, h4⟩
    exact ⟨rfl, h1, h2, h3, h4⟩
  · rintro ⟨rfl, h1, h2, h3, h4⟩
    exact ⟨_, _, rfl, rfl, _, _, rfl, rfl, _, _, rfl, ⟨rfl, h1⟩, _, _, rfl, ⟨rfl, h2⟩, _, _, rfl, ⟨rfl, h3⟩, rfl, h4⟩
theorem RBkt_is {x : BktD} : RBkt.is F h c x ↔ ∃ va vb, c = [.lit (.int .i64 x.id), .lit (.int .i64 x.kind), va, vb] ∧ IsSl RInt F h va x.items ∧ IsSl RInt F h vb x.weights ∧ I64 x.id ∧ I64 x.kind := by
  constructor
  · rintro ⟨_, _, rfl, ⟨rfl, h1⟩, _, _, rfl, ⟨rfl, h2⟩, _, _, rfl, h3, h4⟩
    obtain ⟨va, rfl, h3⟩ := RSl_is.1 h3
    obtain ⟨vb, rfl, h4⟩ := RSl_is.1 h4
    exact ⟨va, vb, rfl, h3, h4, h1, h2⟩
  · rintro ⟨va, vb, rfl, h3, h4, h1, h2⟩
    exact ⟨_, _, rfl, ⟨rfl, h1⟩, _, _, rfl, ⟨rfl, h2⟩, _, _, rfl, h3, h4⟩
theorem RMp_is {x : MapD} : RMp.is F h c x ↔ ∃ vo vp vb, c = [.lit (.int .i64 x.epoch), vo, vp, vb, .lit (.int .i64 x.leaf)] ∧ IsSl ROsd F h vo x.osds ∧ IsSl RPool F h vp x.pools ∧ IsSl RBkt F h vb x.buckets ∧ I64 x.epoch ∧ I64 x.leaf := by
  constructor
  · rintro ⟨_, _, rfl, ⟨rfl, h1⟩, _, _, rfl, h2, _, _, rfl, h3, _, _, rfl, h4, rfl, h5⟩
    obtain ⟨vo, rfl, h2⟩ := RSl_is.1 h2
    obtain ⟨vp, rfl, h3⟩ := RSl_is.1 h3
    obtain ⟨vb, rfl, h4⟩ := RSl_is.1 h4
    exact ⟨vo, vp, vb, rfl, h2, h3, h4, h1, h5⟩
  · rintro ⟨vo, vp, vb, rfl, h2, h3, h4, h1, h5⟩
    exact ⟨_, _, rfl, ⟨rfl, h1⟩, _, _, rfl, h2, _, _, rfl, h3, _, _, rfl, h4, rfl, h5⟩
end
theorem ROsd_z : ROsd.z = 6 := rfl
theorem RBkt_z : RBkt.z = 4 := rfl
/-- The loads of an element, by place. -/
theorem IsSl.at {α : Type} {R : Rep α} {T : TT} {F : Nat → Prop} {h : AH} {v : AV} {xs : List α} (hs : IsSl R F h v xs) {z : Nat} (hz : R.z = z) {i : Nat} {x : α} (hx : xs[i]? = some x) :
    ∃ c, R.is F h c x ∧ (∀ e n j, sizeT T e = some n → 0 < n → j + n ≤ z → loadA T h e (slB v) (slO v + i * z + j) = ldL T e c j) ∧ (∀ e n, sizeT T e = some n → 0 < n → n ≤ z → loadA T h e (slB v) (slO v + i * z) = ldL T e c 0) := by
  subst hz
  obtain ⟨c, h1, h2⟩ := hs.get (T := T) hx
  exact ⟨c, h1, h2, fun e n hn h0 hle => by have := h2 e n 0 hn h0 (by omega); simpa using this⟩
/-- A list of elements of so many bytes is not too great. -/
def Sm {α : Type} (by' : Nat) (ys : List α) : Prop := ys.length * by' ≤ 140737488351232
/-- The loads of an element in a heap that has grown; what the element is, is told of the heap ahead. -/
theorem IsSl.atE {α : Type} {R : Rep α} {T : TT} {F : Nat → Prop} {H h : AH} {v : AV} {xs : List α} (hs : IsSl R F H v xs) (he : Ext H.n H h) {z : Nat} (hz : R.z = z) {i : Nat} {x : α} (hx : xs[i]? = some x) :
    ∃ c, R.is F H c x ∧ (∀ e n j, sizeT T e = some n → 0 < n → j + n ≤ z → loadA T h e (slB v) (slO v + i * z + j) = ldL T e c j) ∧ (∀ e n, sizeT T e = some n → 0 < n → n ≤ z → loadA T h e (slB v) (slO v + i * z) = ldL T e c 0) := by
  have key : ∀ e off, loadA T h e (slB v) off = loadA T H e (slB v) off := fun e off => by
    obtain ⟨L, h1, _, _, h3⟩ := hs.out
    rcases h1.2 with ⟨rfl, rfl⟩ | ⟨b, o, cap, row, rfl, h4, h5⟩
    · have := h3.1
      have hlt := (List.getElem?_eq_some_iff.1 hx).1
      simp at this
      omega
    · have := he.2 b (getR_lt h4)
      simp only [slB, loadA, getR, this]
  obtain ⟨c, h1, h2, h3⟩ := hs.at (T := T) hz hx
  exact ⟨c, h1, fun e n j a b d => by rw [key]; exact h2 e n j a b d, fun e n a b d => by rw [key]; exact h3 e n a b d⟩
end Go.Proofs.YtkgbeihcepociaaDoor.Ex
end
