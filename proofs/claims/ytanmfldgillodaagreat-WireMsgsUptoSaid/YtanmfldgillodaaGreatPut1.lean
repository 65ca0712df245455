/- The structs of a map, and the contracts of the document's writers of them. -/
import Derived.Test.YtanmfldgillodaaGreatData
set_option linter.unusedSimpArgs false
set_option linter.unusedVariables false
namespace Go.Proofs.YtanmfldgillodaaGreat
open Go.RowKit

structure OsdT where
  ex : Bool
  up : Bool
  weight : Int
  boot : Int
  upFrom : Int
  upThru : Int

def OsdT.Is (w : World) (S : Nat → Prop) (cs : List Value) (x : OsdT) : Prop := cs = [Value.bool x.ex, Value.bool x.up, Value.int IntKind.i64 x.weight, Value.int IntKind.i64 x.boot, Value.int IntKind.i64 x.upFrom, Value.int IntKind.i64 x.upThru] ∧ in64 x.weight ∧ in64 x.boot ∧ in64 x.upFrom ∧ in64 x.upThru
def OsdT.enc (x : OsdT) : List UInt8 := [] ++ bB x.ex ++ bB x.up ++ encI x.weight ++ encI x.boot ++ encI x.upFrom ++ encI x.upThru
theorem OsdT.Is.heap {w w' : World} {S S' : Nat → Prop} {cs : List Value} {x : OsdT} (h : OsdT.Is w S cs x) : OsdT.Is w' S' cs x := h

set_option maxRecDepth 100000 in
set_option maxHeartbeats 1600000 in
theorem putOsd_c {w : World} {v : Value} {out : List UInt8} {g : Option Nat} (h : Own w 5 1 v out.length (out.map bv) g) (x : OsdT) (hm : out.length + x.enc.length ≤ 90000000000000) :
    Calls Tryz.prog 119 #[v, .agg #[Value.bool x.ex, Value.bool x.up, Value.int IntKind.i64 x.weight, Value.int IntKind.i64 x.boot, Value.int IntKind.i64 x.upFrom, Value.int IntKind.i64 x.upThru]] w fun e w' => ∃ v', e = .returned v' ∧ Grew w w' v' out g x.enc := by
  simp only [OsdT.enc] at hm ⊢
  obtain ⟨a0, c0, rfl, -, -⟩ := h.shape
  go_enter Tryz.func119, Tryz.ntmps119
  go_wp2_with fail
  have x0 : (w.alloc (Obj.cells #[Value.bool x.ex, Value.bool x.up, Value.int IntKind.i64 x.weight, Value.int IntKind.i64 x.boot, Value.int IntKind.i64 x.upFrom, Value.int IntKind.i64 x.upThru] 215)).heap[w.heap.size]? = some (Obj.cells #[Value.bool x.ex, Value.bool x.up, Value.int IntKind.i64 x.weight, Value.int IntKind.i64 x.boot, Value.int IntKind.i64 x.upFrom, Value.int IntKind.i64 x.upThru] 215) := heap_alloc_new' _ _
  have S0 := (Out.start h).alloc (Obj.cells #[Value.bool x.ex, Value.bool x.up, Value.int IntKind.i64 x.weight, Value.int IntKind.i64 x.boot, Value.int IntKind.i64 x.upFrom, Value.int IntKind.i64 x.upThru] 215)
  generalize w.alloc (Obj.cells #[Value.bool x.ex, Value.bool x.up, Value.int IntKind.i64 x.weight, Value.int IntKind.i64 x.boot, Value.int IntKind.i64 x.upFrom, Value.int IntKind.i64 x.upThru] 215) = w0 at x0 S0 ⊢
  refine (boolRef_c S0.own x.ex (by have := S0.len; simp only [List.length_append, List.length_nil, encI_length, bB_length, leB_length] at this hm; omega)).mono ?_
  rintro e w1 ⟨v1, rfl, hG1⟩
  obtain ⟨L1, g1, S1⟩ := S0.then hG1
  obtain ⟨a1, c1, rfl, -, -⟩ := S1.own.shape
  have x1 : w1.heap[w.heap.size]? = some (Obj.cells #[Value.bool x.ex, Value.bool x.up, Value.int IntKind.i64 x.weight, Value.int IntKind.i64 x.boot, Value.int IntKind.i64 x.upFrom, Value.int IntKind.i64 x.upThru] 215) := (hG1.old _ (lt_in x0) (fun hh => S0.own.ne x0 (by decide) _ hh rfl)).trans x0
  have z1 : w1.cell? ⟨w.heap.size, 1, none⟩ = some (Value.bool x.up) := cell_in x1
  have lx := lt_in x1
  go_wp2_with fail
  clear z1 lx
  refine (boolRef_c S1.own x.up (by have := S1.len; simp only [List.length_append, List.length_nil, encI_length, bB_length, leB_length] at this hm; omega)).mono ?_
  rintro e w2 ⟨v2, rfl, hG2⟩
  obtain ⟨L2, g2, S2⟩ := S1.then hG2
  obtain ⟨a2, c2, rfl, -, -⟩ := S2.own.shape
  have x2 : w2.heap[w.heap.size]? = some (Obj.cells #[Value.bool x.ex, Value.bool x.up, Value.int IntKind.i64 x.weight, Value.int IntKind.i64 x.boot, Value.int IntKind.i64 x.upFrom, Value.int IntKind.i64 x.upThru] 215) := (hG2.old _ (lt_in x1) (fun hh => S1.own.ne x1 (by decide) _ hh rfl)).trans x1
  have z2 : w2.cell? ⟨w.heap.size, 2, none⟩ = some (Value.int IntKind.i64 x.weight) := cell_in x2
  have lx := lt_in x2
  go_wp2_with fail
  clear z2 lx
  refine (int_c S2.own x.weight (by have := S2.len; simp only [List.length_append, List.length_nil, encI_length, bB_length, leB_length] at this hm; omega)).mono ?_
  rintro e w3 ⟨v3, rfl, hG3⟩
  obtain ⟨L3, g3, S3⟩ := S2.then hG3
  obtain ⟨a3, c3, rfl, -, -⟩ := S3.own.shape
  have x3 : w3.heap[w.heap.size]? = some (Obj.cells #[Value.bool x.ex, Value.bool x.up, Value.int IntKind.i64 x.weight, Value.int IntKind.i64 x.boot, Value.int IntKind.i64 x.upFrom, Value.int IntKind.i64 x.upThru] 215) := (hG3.old _ (lt_in x2) (fun hh => S2.own.ne x2 (by decide) _ hh rfl)).trans x2
  have z3 : w3.cell? ⟨w.heap.size, 3, none⟩ = some (Value.int IntKind.i64 x.boot) := cell_in x3
  have lx := lt_in x3
  go_wp2_with fail
  clear z3 lx
  refine (int_c S3.own x.boot (by have := S3.len; simp only [List.length_append, List.length_nil, encI_length, bB_length, leB_length] at this hm; omega)).mono ?_
  rintro e w4 ⟨v4, rfl, hG4⟩
  obtain ⟨L4, g4, S4⟩ := S3.then hG4
  obtain ⟨a4, c4, rfl, -, -⟩ := S4.own.shape
  have x4 : w4.heap[w.heap.size]? = some (Obj.cells #[Value.bool x.ex, Value.bool x.up, Value.int IntKind.i64 x.weight, Value.int IntKind.i64 x.boot, Value.int IntKind.i64 x.upFrom, Value.int IntKind.i64 x.upThru] 215) := (hG4.old _ (lt_in x3) (fun hh => S3.own.ne x3 (by decide) _ hh rfl)).trans x3
  have z4 : w4.cell? ⟨w.heap.size, 4, none⟩ = some (Value.int IntKind.i64 x.upFrom) := cell_in x4
  have lx := lt_in x4
  go_wp2_with fail
  clear z4 lx
  refine (int_c S4.own x.upFrom (by have := S4.len; simp only [List.length_append, List.length_nil, encI_length, bB_length, leB_length] at this hm; omega)).mono ?_
  rintro e w5 ⟨v5, rfl, hG5⟩
  obtain ⟨L5, g5, S5⟩ := S4.then hG5
  obtain ⟨a5, c5, rfl, -, -⟩ := S5.own.shape
  have x5 : w5.heap[w.heap.size]? = some (Obj.cells #[Value.bool x.ex, Value.bool x.up, Value.int IntKind.i64 x.weight, Value.int IntKind.i64 x.boot, Value.int IntKind.i64 x.upFrom, Value.int IntKind.i64 x.upThru] 215) := (hG5.old _ (lt_in x4) (fun hh => S4.own.ne x4 (by decide) _ hh rfl)).trans x4
  have z5 : w5.cell? ⟨w.heap.size, 5, none⟩ = some (Value.int IntKind.i64 x.upThru) := cell_in x5
  have lx := lt_in x5
  go_wp2_with fail
  clear z5 lx
  refine (int_c S5.own x.upThru (by have := S5.len; simp only [List.length_append, List.length_nil, encI_length, bB_length, leB_length] at this hm; omega)).mono ?_
  rintro e w6 ⟨v6, rfl, hG6⟩
  obtain ⟨L6, g6, S6⟩ := S5.then hG6
  obtain ⟨a6, c6, rfl, -, -⟩ := S6.own.shape
  have x6 : w6.heap[w.heap.size]? = some (Obj.cells #[Value.bool x.ex, Value.bool x.up, Value.int IntKind.i64 x.weight, Value.int IntKind.i64 x.boot, Value.int IntKind.i64 x.upFrom, Value.int IntKind.i64 x.upThru] 215) := (hG6.old _ (lt_in x5) (fun hh => S5.own.ne x5 (by decide) _ hh rfl)).trans x5
  go_wp2
  go_ret
  exact ⟨_, rfl, S6.done⟩

structure PoolT where
  id : Int
  size : Int
  min : Int
  pgs : Int

def PoolT.Is (w : World) (S : Nat → Prop) (cs : List Value) (x : PoolT) : Prop := cs = [Value.int IntKind.i64 x.id, Value.int IntKind.i64 x.size, Value.int IntKind.i64 x.min, Value.int IntKind.i64 x.pgs] ∧ in64 x.id ∧ in64 x.size ∧ in64 x.min ∧ in64 x.pgs
def PoolT.enc (x : PoolT) : List UInt8 := [] ++ encI x.id ++ encI x.size ++ encI x.min ++ encI x.pgs
theorem PoolT.Is.heap {w w' : World} {S S' : Nat → Prop} {cs : List Value} {x : PoolT} (h : PoolT.Is w S cs x) : PoolT.Is w' S' cs x := h

set_option maxRecDepth 100000 in
set_option maxHeartbeats 1600000 in
theorem putPool_c {w : World} {v : Value} {out : List UInt8} {g : Option Nat} (h : Own w 5 1 v out.length (out.map bv) g) (x : PoolT) (hm : out.length + x.enc.length ≤ 90000000000000) :
    Calls Tryz.prog 120 #[v, .agg #[Value.int IntKind.i64 x.id, Value.int IntKind.i64 x.size, Value.int IntKind.i64 x.min, Value.int IntKind.i64 x.pgs]] w fun e w' => ∃ v', e = .returned v' ∧ Grew w w' v' out g x.enc := by
  simp only [PoolT.enc] at hm ⊢
  obtain ⟨a0, c0, rfl, -, -⟩ := h.shape
  go_enter Tryz.func120, Tryz.ntmps120
  go_wp2_with fail
  have x0 : (w.alloc (Obj.cells #[Value.int IntKind.i64 x.id, Value.int IntKind.i64 x.size, Value.int IntKind.i64 x.min, Value.int IntKind.i64 x.pgs] 155)).heap[w.heap.size]? = some (Obj.cells #[Value.int IntKind.i64 x.id, Value.int IntKind.i64 x.size, Value.int IntKind.i64 x.min, Value.int IntKind.i64 x.pgs] 155) := heap_alloc_new' _ _
  have S0 := (Out.start h).alloc (Obj.cells #[Value.int IntKind.i64 x.id, Value.int IntKind.i64 x.size, Value.int IntKind.i64 x.min, Value.int IntKind.i64 x.pgs] 155)
  generalize w.alloc (Obj.cells #[Value.int IntKind.i64 x.id, Value.int IntKind.i64 x.size, Value.int IntKind.i64 x.min, Value.int IntKind.i64 x.pgs] 155) = w0 at x0 S0 ⊢
  refine (int_c S0.own x.id (by have := S0.len; simp only [List.length_append, List.length_nil, encI_length, bB_length, leB_length] at this hm; omega)).mono ?_
  rintro e w1 ⟨v1, rfl, hG1⟩
  obtain ⟨L1, g1, S1⟩ := S0.then hG1
  obtain ⟨a1, c1, rfl, -, -⟩ := S1.own.shape
  have x1 : w1.heap[w.heap.size]? = some (Obj.cells #[Value.int IntKind.i64 x.id, Value.int IntKind.i64 x.size, Value.int IntKind.i64 x.min, Value.int IntKind.i64 x.pgs] 155) := (hG1.old _ (lt_in x0) (fun hh => S0.own.ne x0 (by decide) _ hh rfl)).trans x0
  have z1 : w1.cell? ⟨w.heap.size, 1, none⟩ = some (Value.int IntKind.i64 x.size) := cell_in x1
  have lx := lt_in x1
  go_wp2_with fail
  clear z1 lx
  refine (int_c S1.own x.size (by have := S1.len; simp only [List.length_append, List.length_nil, encI_length, bB_length, leB_length] at this hm; omega)).mono ?_
  rintro e w2 ⟨v2, rfl, hG2⟩
  obtain ⟨L2, g2, S2⟩ := S1.then hG2
  obtain ⟨a2, c2, rfl, -, -⟩ := S2.own.shape
  have x2 : w2.heap[w.heap.size]? = some (Obj.cells #[Value.int IntKind.i64 x.id, Value.int IntKind.i64 x.size, Value.int IntKind.i64 x.min, Value.int IntKind.i64 x.pgs] 155) := (hG2.old _ (lt_in x1) (fun hh => S1.own.ne x1 (by decide) _ hh rfl)).trans x1
  have z2 : w2.cell? ⟨w.heap.size, 2, none⟩ = some (Value.int IntKind.i64 x.min) := cell_in x2
  have lx := lt_in x2
  go_wp2_with fail
  clear z2 lx
  refine (int_c S2.own x.min (by have := S2.len; simp only [List.length_append, List.length_nil, encI_length, bB_length, leB_length] at this hm; omega)).mono ?_
  rintro e w3 ⟨v3, rfl, hG3⟩
  obtain ⟨L3, g3, S3⟩ := S2.then hG3
  obtain ⟨a3, c3, rfl, -, -⟩ := S3.own.shape
  have x3 : w3.heap[w.heap.size]? = some (Obj.cells #[Value.int IntKind.i64 x.id, Value.int IntKind.i64 x.size, Value.int IntKind.i64 x.min, Value.int IntKind.i64 x.pgs] 155) := (hG3.old _ (lt_in x2) (fun hh => S2.own.ne x2 (by decide) _ hh rfl)).trans x2
  have z3 : w3.cell? ⟨w.heap.size, 3, none⟩ = some (Value.int IntKind.i64 x.pgs) := cell_in x3
  have lx := lt_in x3
  go_wp2_with fail
  clear z3 lx
  refine (int_c S3.own x.pgs (by have := S3.len; simp only [List.length_append, List.length_nil, encI_length, bB_length, leB_length] at this hm; omega)).mono ?_
  rintro e w4 ⟨v4, rfl, hG4⟩
  obtain ⟨L4, g4, S4⟩ := S3.then hG4
  obtain ⟨a4, c4, rfl, -, -⟩ := S4.own.shape
  have x4 : w4.heap[w.heap.size]? = some (Obj.cells #[Value.int IntKind.i64 x.id, Value.int IntKind.i64 x.size, Value.int IntKind.i64 x.min, Value.int IntKind.i64 x.pgs] 155) := (hG4.old _ (lt_in x3) (fun hh => S3.own.ne x3 (by decide) _ hh rfl)).trans x3
  go_wp2
  go_ret
  exact ⟨_, rfl, S4.done⟩

structure BucketT where
  id : Int
  kind : Int
  items : List Int
  weights : List Int

def BucketT.Is (w : World) (S : Nat → Prop) (cs : List Value) (x : BucketT) : Prop := ∃ v_items v_weights : Value, cs = [Value.int IntKind.i64 x.id, Value.int IntKind.i64 x.kind, v_items, v_weights] ∧ in64 x.id ∧ in64 x.kind ∧ ListIs 1 intIs w S v_items x.items ∧ ListIs 1 intIs w S v_weights x.weights
def BucketT.enc (x : BucketT) : List UInt8 := [] ++ encI x.id ++ encI x.kind ++ leB 4 x.items.length ++ x.items.flatMap encI ++ leB 4 x.weights.length ++ x.weights.flatMap encI
theorem BucketT.Is.heap {w w' : World} {S S' : Nat → Prop} {cs : List Value} {x : BucketT} (h : BucketT.Is w S cs x) (hS : ∀ k, S k → S' k) (hk : ∀ k, S k → w'.heap[k]? = w.heap[k]?) : BucketT.Is w' S' cs x := by
  obtain ⟨v_items, v_weights, rfl, i0, i1, l0, l1⟩ := h
  exact ⟨v_items, v_weights, rfl, i0, i1, l0.heap (fun _ _ h => intIs.heap h) hS hk, l1.heap (fun _ _ h => intIs.heap h) hS hk⟩

set_option maxRecDepth 100000 in
set_option maxHeartbeats 1600000 in
theorem putBucket_c {w : World} {v : Value} {out : List UInt8} {g : Option Nat} (h : Own w 5 1 v out.length (out.map bv) g) {S : Nat → Prop} (hS : ∀ k, S k → k < w.heap.size ∧ g ≠ some k) (x : BucketT) {cs : List Value} (hx : BucketT.Is w S cs x) (hm : out.length + x.enc.length ≤ 90000000000000) :
    Calls Tryz.prog 121 #[v, .agg cs.toArray] w fun e w' => ∃ v', e = .returned v' ∧ Grew w w' v' out g x.enc := by
  obtain ⟨v_items, v_weights, rfl, i0, i1, l0, l1⟩ := hx
  obtain ⟨a_v_items, c_v_items, rfl, -⟩ := l0.shape
  obtain ⟨a_v_weights, c_v_weights, rfl, -⟩ := l1.shape
  simp only [BucketT.enc] at hm ⊢
  obtain ⟨a0, c0, rfl, -, -⟩ := h.shape
  go_enter Tryz.func121, Tryz.ntmps121
  go_wp2_with fail
  have x0 : (w.alloc (Obj.cells #[Value.int IntKind.i64 x.id, Value.int IntKind.i64 x.kind, Value.slice a_v_items x.items.length c_v_items, Value.slice a_v_weights x.weights.length c_v_weights] 158)).heap[w.heap.size]? = some (Obj.cells #[Value.int IntKind.i64 x.id, Value.int IntKind.i64 x.kind, Value.slice a_v_items x.items.length c_v_items, Value.slice a_v_weights x.weights.length c_v_weights] 158) := heap_alloc_new' _ _
  have S0 := (Out.start h).alloc (Obj.cells #[Value.int IntKind.i64 x.id, Value.int IntKind.i64 x.kind, Value.slice a_v_items x.items.length c_v_items, Value.slice a_v_weights x.weights.length c_v_weights] 158)
  generalize w.alloc (Obj.cells #[Value.int IntKind.i64 x.id, Value.int IntKind.i64 x.kind, Value.slice a_v_items x.items.length c_v_items, Value.slice a_v_weights x.weights.length c_v_weights] 158) = w0 at x0 S0 ⊢
  refine (int_c S0.own x.id (by have := S0.len; simp only [List.length_append, List.length_nil, encI_length, bB_length, leB_length] at this hm; omega)).mono ?_
  rintro e w1 ⟨v1, rfl, hG1⟩
  obtain ⟨L1, g1, S1⟩ := S0.then hG1
  obtain ⟨a1, c1, rfl, -, -⟩ := S1.own.shape
  have x1 : w1.heap[w.heap.size]? = some (Obj.cells #[Value.int IntKind.i64 x.id, Value.int IntKind.i64 x.kind, Value.slice a_v_items x.items.length c_v_items, Value.slice a_v_weights x.weights.length c_v_weights] 158) := (hG1.old _ (lt_in x0) (fun hh => S0.own.ne x0 (by decide) _ hh rfl)).trans x0
  have z1 : w1.cell? ⟨w.heap.size, 1, none⟩ = some (Value.int IntKind.i64 x.kind) := cell_in x1
  have lx := lt_in x1
  go_wp2_with fail
  clear z1 lx
  refine (int_c S1.own x.kind (by have := S1.len; simp only [List.length_append, List.length_nil, encI_length, bB_length, leB_length] at this hm; omega)).mono ?_
  rintro e w2 ⟨v2, rfl, hG2⟩
  obtain ⟨L2, g2, S2⟩ := S1.then hG2
  obtain ⟨a2, c2, rfl, -, -⟩ := S2.own.shape
  have x2 : w2.heap[w.heap.size]? = some (Obj.cells #[Value.int IntKind.i64 x.id, Value.int IntKind.i64 x.kind, Value.slice a_v_items x.items.length c_v_items, Value.slice a_v_weights x.weights.length c_v_weights] 158) := (hG2.old _ (lt_in x1) (fun hh => S1.own.ne x1 (by decide) _ hh rfl)).trans x1
  have z2 : w2.cell? ⟨w.heap.size, 2, none⟩ = some (Value.slice a_v_items x.items.length c_v_items) := cell_in x2
  have lx := lt_in x2
  go_wp2_with fail
  clear z2 lx
  refine (countRef_c S2.own x.items.length (by have := S2.len; simp only [List.length_append, List.length_nil, encI_length, bB_length, leB_length] at this hm; omega)).mono ?_
  rintro e w3 ⟨v3, rfl, hG3⟩
  obtain ⟨L3, g3, S3⟩ := S2.then hG3
  obtain ⟨a3, c3, rfl, -, -⟩ := S3.own.shape
  have x3 : w3.heap[w.heap.size]? = some (Obj.cells #[Value.int IntKind.i64 x.id, Value.int IntKind.i64 x.kind, Value.slice a_v_items x.items.length c_v_items, Value.slice a_v_weights x.weights.length c_v_weights] 158) := (hG3.old _ (lt_in x2) (fun hh => S2.own.ne x2 (by decide) _ hh rfl)).trans x2
  have z2 : w3.cell? ⟨w.heap.size, 2, none⟩ = some (Value.slice a_v_items x.items.length c_v_items) := cell_in x3
  have lx := lt_in x3
  go_wp2
  clear z2 lx
  go_loopw [25, 0] (fun i o w' => ∃ (k : Nat) (L : List UInt8) (gL : Option Nat), k ≤ x.items.length ∧ i = .int .i64 k ∧ Out w w' o out g (([] ++ encI x.id ++ encI x.kind ++ leB 4 x.items.length) ++ (x.items.take k).flatMap encI) L gL ∧ w'.heap[w.heap.size]? = some (Obj.cells #[Value.int IntKind.i64 x.id, Value.int IntKind.i64 x.kind, Value.slice a_v_items x.items.length c_v_items, Value.slice a_v_weights x.weights.length c_v_weights] 158)) (fun i _ _ => x.items.length - (intOf i).toNat)
  case atStart => exact ⟨0, L3, g3, by omega, rfl, S3.cast (by simp), x3⟩
  case round =>
    obtain ⟨k, L, gL, hk, rfl, SL, xl⟩ := hrel
    by_cases hk2 : k < x.items.length
    · have hki : (k : Int) < (x.items.length : Int) := by omega
      have hnl : x.items.length ≤ 9223372036854775807 := l0.small
      have hd := SL.data hS
      obtain ⟨b, off, cs, rfl, hb, hcl, hcell, hr⟩ := (l0.heap (fun _ _ h => intIs.heap h) (fun _ h => h) hd).at hk2
      have hfl := flatMap_le encI x.items (k + 1)
      have hft := flatMap_take encI x.items k hk2
      rw [hft, List.length_append] at hfl
      obtain ⟨e, he⟩ : ∃ e, e = x.items[k] := ⟨_, rfl⟩
      rw [← he] at hr hft hfl
      have HFT := Lib.hid hft
      clear hft he hcl
      obtain ⟨aL, cL, rfl, -, -⟩ := SL.own.shape
      obtain ⟨rfl, -⟩ := hr
      have y0 := hcell 0 (by omega)
      simp only [Nat.mul_one, Nat.add_zero, List.getElem?_cons_zero] at y0
      go_wp2_with fail
      refine (int_c SL.own e (by have := SL.len; simp only [List.length_append, List.length_nil, encI_length, bB_length, leB_length] at this hm hfl; omega)).mono ?_
      rintro _ w9 ⟨v9, rfl, hG⟩
      obtain ⟨L9, g9, S9⟩ := SL.then hG
      have xl9 : w9.heap[w.heap.size]? = _ := (hG.old _ (lt_in xl) (fun hh => SL.own.ne xl (by decide) _ hh rfl)).trans xl
      obtain ⟨a9, c9, rfl, -, -⟩ := S9.own.shape
      have X9 := Lib.hid xl9
      have HS9 := Lib.hid (S9.cast (more' := ([] ++ encI x.id ++ encI x.kind ++ leB 4 x.items.length) ++ (x.items.take (k + 1)).flatMap encI) (by rw [HFT.out, List.append_assoc]))
      clear xl9 S9 hG
      go_wp2
      exact ⟨⟨k + 1, L9, g9, by omega, by simp, HS9.out, X9.out⟩, by simp [intOf]; omega⟩
    · obtain rfl : k = x.items.length := by omega
      have S4 : Out w wr _ out g (([] ++ encI x.id ++ encI x.kind ++ leB 4 x.items.length) ++ x.items.flatMap encI) L gL := SL.cast (by rw [List.take_length])
      obtain ⟨a4, c4, rfl, -, -⟩ := S4.own.shape
      have x4 := xl
      rename World => w4
      clear SL xl
      have z3 : w4.cell? ⟨w.heap.size, 3, none⟩ = some (Value.slice a_v_weights x.weights.length c_v_weights) := cell_in x4
      have lx := lt_in x4
      go_wp2_with fail
      clear z3 lx
      refine (countRef_c S4.own x.weights.length (by have := S4.len; simp only [List.length_append, List.length_nil, encI_length, bB_length, leB_length] at this hm; omega)).mono ?_
      rintro e w5 ⟨v5, rfl, hG5⟩
      obtain ⟨L5, g5, S5⟩ := S4.then hG5
      obtain ⟨a5, c5, rfl, -, -⟩ := S5.own.shape
      have x5 : w5.heap[w.heap.size]? = some (Obj.cells #[Value.int IntKind.i64 x.id, Value.int IntKind.i64 x.kind, Value.slice a_v_items x.items.length c_v_items, Value.slice a_v_weights x.weights.length c_v_weights] 158) := (hG5.old _ (lt_in x4) (fun hh => S4.own.ne x4 (by decide) _ hh rfl)).trans x4
      have z3 : w5.cell? ⟨w.heap.size, 3, none⟩ = some (Value.slice a_v_weights x.weights.length c_v_weights) := cell_in x5
      have lx := lt_in x5
      go_wp2
      clear z3 lx
      go_loopw [41, 0] (fun i o w' => ∃ (k : Nat) (L : List UInt8) (gL : Option Nat), k ≤ x.weights.length ∧ i = .int .i64 k ∧ Out w w' o out g (([] ++ encI x.id ++ encI x.kind ++ leB 4 x.items.length ++ x.items.flatMap encI ++ leB 4 x.weights.length) ++ (x.weights.take k).flatMap encI) L gL ∧ w'.heap[w.heap.size]? = some (Obj.cells #[Value.int IntKind.i64 x.id, Value.int IntKind.i64 x.kind, Value.slice a_v_items x.items.length c_v_items, Value.slice a_v_weights x.weights.length c_v_weights] 158)) (fun i _ _ => x.weights.length - (intOf i).toNat)
      case atStart => exact ⟨0, L5, g5, by omega, rfl, S5.cast (by simp), x5⟩
      case round =>
        obtain ⟨k, L, gL, hk, rfl, SL, xl⟩ := hrel
        by_cases hk2 : k < x.weights.length
        · have hki : (k : Int) < (x.weights.length : Int) := by omega
          have hnl : x.weights.length ≤ 9223372036854775807 := l1.small
          have hd := SL.data hS
          obtain ⟨b, off, cs, rfl, hb, hcl, hcell, hr⟩ := (l1.heap (fun _ _ h => intIs.heap h) (fun _ h => h) hd).at hk2
          have hfl := flatMap_le encI x.weights (k + 1)
          have hft := flatMap_take encI x.weights k hk2
          rw [hft, List.length_append] at hfl
          obtain ⟨e, he⟩ : ∃ e, e = x.weights[k] := ⟨_, rfl⟩
          rw [← he] at hr hft hfl
          have HFT := Lib.hid hft
          clear hft he hcl
          obtain ⟨aL, cL, rfl, -, -⟩ := SL.own.shape
          obtain ⟨rfl, -⟩ := hr
          have y0 := hcell 0 (by omega)
          simp only [Nat.mul_one, Nat.add_zero, List.getElem?_cons_zero] at y0
          go_wp2_with fail
          refine (int_c SL.own e (by have := SL.len; simp only [List.length_append, List.length_nil, encI_length, bB_length, leB_length] at this hm hfl; omega)).mono ?_
          rintro _ w9 ⟨v9, rfl, hG⟩
          obtain ⟨L9, g9, S9⟩ := SL.then hG
          have xl9 : w9.heap[w.heap.size]? = _ := (hG.old _ (lt_in xl) (fun hh => SL.own.ne xl (by decide) _ hh rfl)).trans xl
          obtain ⟨a9, c9, rfl, -, -⟩ := S9.own.shape
          have X9 := Lib.hid xl9
          have HS9 := Lib.hid (S9.cast (more' := ([] ++ encI x.id ++ encI x.kind ++ leB 4 x.items.length ++ x.items.flatMap encI ++ leB 4 x.weights.length) ++ (x.weights.take (k + 1)).flatMap encI) (by rw [HFT.out, List.append_assoc]))
          clear xl9 S9 hG
          go_wp2
          exact ⟨⟨k + 1, L9, g9, by omega, by simp, HS9.out, X9.out⟩, by simp [intOf]; omega⟩
        · obtain rfl : k = x.weights.length := by omega
          have S6 : Out w wr _ out g (([] ++ encI x.id ++ encI x.kind ++ leB 4 x.items.length ++ x.items.flatMap encI ++ leB 4 x.weights.length) ++ x.weights.flatMap encI) L gL := SL.cast (by rw [List.take_length])
          obtain ⟨a6, c6, rfl, -, -⟩ := S6.own.shape
          have x6 := xl
          rename World => w6
          clear SL xl
          go_wp2
          go_ret
          exact ⟨_, rfl, S6.done⟩

structure ChangeT where
  kind : Int
  osd : Int
  value : Int
  pool : PoolT
  bucket : BucketT

def ChangeT.Is (w : World) (S : Nat → Prop) (cs : List Value) (x : ChangeT) : Prop := ∃ v_bucket_items v_bucket_weights : Value, cs = [Value.int IntKind.i64 x.kind, Value.int IntKind.i64 x.osd, Value.int IntKind.i64 x.value, Value.int IntKind.i64 x.pool.id, Value.int IntKind.i64 x.pool.size, Value.int IntKind.i64 x.pool.min, Value.int IntKind.i64 x.pool.pgs, Value.int IntKind.i64 x.bucket.id, Value.int IntKind.i64 x.bucket.kind, v_bucket_items, v_bucket_weights] ∧ in64 x.kind ∧ in64 x.osd ∧ in64 x.value ∧ in64 x.pool.id ∧ in64 x.pool.size ∧ in64 x.pool.min ∧ in64 x.pool.pgs ∧ in64 x.bucket.id ∧ in64 x.bucket.kind ∧ ListIs 1 intIs w S v_bucket_items x.bucket.items ∧ ListIs 1 intIs w S v_bucket_weights x.bucket.weights
def ChangeT.enc (x : ChangeT) : List UInt8 := [] ++ encI x.kind ++ encI x.osd ++ encI x.value ++ x.pool.enc ++ x.bucket.enc
theorem ChangeT.Is.heap {w w' : World} {S S' : Nat → Prop} {cs : List Value} {x : ChangeT} (h : ChangeT.Is w S cs x) (hS : ∀ k, S k → S' k) (hk : ∀ k, S k → w'.heap[k]? = w.heap[k]?) : ChangeT.Is w' S' cs x := by
  obtain ⟨v_bucket_items, v_bucket_weights, rfl, i0, i1, i2, i3, i4, i5, i6, i7, i8, l0, l1⟩ := h
  exact ⟨v_bucket_items, v_bucket_weights, rfl, i0, i1, i2, i3, i4, i5, i6, i7, i8, l0.heap (fun _ _ h => intIs.heap h) hS hk, l1.heap (fun _ _ h => intIs.heap h) hS hk⟩

set_option maxRecDepth 100000 in
set_option maxHeartbeats 1600000 in
theorem putChange_c {w : World} {v : Value} {out : List UInt8} {g : Option Nat} (h : Own w 5 1 v out.length (out.map bv) g) {S : Nat → Prop} (hS : ∀ k, S k → k < w.heap.size ∧ g ≠ some k) (x : ChangeT) {cs : List Value} (hx : ChangeT.Is w S cs x) (hm : out.length + x.enc.length ≤ 90000000000000) :
    Calls Tryz.prog 86 #[v, .agg cs.toArray] w fun e w' => ∃ v', e = .returned v' ∧ Grew w w' v' out g x.enc := by
  obtain ⟨v_bucket_items, v_bucket_weights, rfl, i0, i1, i2, i3, i4, i5, i6, i7, i8, l0, l1⟩ := hx
  obtain ⟨a_v_bucket_items, c_v_bucket_items, rfl, -⟩ := l0.shape
  obtain ⟨a_v_bucket_weights, c_v_bucket_weights, rfl, -⟩ := l1.shape
  simp only [ChangeT.enc] at hm ⊢
  obtain ⟨a0, c0, rfl, -, -⟩ := h.shape
  go_enter Tryz.func86, Tryz.ntmps86
  go_wp2_with fail
  have x0 : (w.alloc (Obj.cells #[Value.int IntKind.i64 x.kind, Value.int IntKind.i64 x.osd, Value.int IntKind.i64 x.value, Value.int IntKind.i64 x.pool.id, Value.int IntKind.i64 x.pool.size, Value.int IntKind.i64 x.pool.min, Value.int IntKind.i64 x.pool.pgs, Value.int IntKind.i64 x.bucket.id, Value.int IntKind.i64 x.bucket.kind, Value.slice a_v_bucket_items x.bucket.items.length c_v_bucket_items, Value.slice a_v_bucket_weights x.bucket.weights.length c_v_bucket_weights] 160)).heap[w.heap.size]? = some (Obj.cells #[Value.int IntKind.i64 x.kind, Value.int IntKind.i64 x.osd, Value.int IntKind.i64 x.value, Value.int IntKind.i64 x.pool.id, Value.int IntKind.i64 x.pool.size, Value.int IntKind.i64 x.pool.min, Value.int IntKind.i64 x.pool.pgs, Value.int IntKind.i64 x.bucket.id, Value.int IntKind.i64 x.bucket.kind, Value.slice a_v_bucket_items x.bucket.items.length c_v_bucket_items, Value.slice a_v_bucket_weights x.bucket.weights.length c_v_bucket_weights] 160) := heap_alloc_new' _ _
  have S0 := (Out.start h).alloc (Obj.cells #[Value.int IntKind.i64 x.kind, Value.int IntKind.i64 x.osd, Value.int IntKind.i64 x.value, Value.int IntKind.i64 x.pool.id, Value.int IntKind.i64 x.pool.size, Value.int IntKind.i64 x.pool.min, Value.int IntKind.i64 x.pool.pgs, Value.int IntKind.i64 x.bucket.id, Value.int IntKind.i64 x.bucket.kind, Value.slice a_v_bucket_items x.bucket.items.length c_v_bucket_items, Value.slice a_v_bucket_weights x.bucket.weights.length c_v_bucket_weights] 160)
  generalize w.alloc (Obj.cells #[Value.int IntKind.i64 x.kind, Value.int IntKind.i64 x.osd, Value.int IntKind.i64 x.value, Value.int IntKind.i64 x.pool.id, Value.int IntKind.i64 x.pool.size, Value.int IntKind.i64 x.pool.min, Value.int IntKind.i64 x.pool.pgs, Value.int IntKind.i64 x.bucket.id, Value.int IntKind.i64 x.bucket.kind, Value.slice a_v_bucket_items x.bucket.items.length c_v_bucket_items, Value.slice a_v_bucket_weights x.bucket.weights.length c_v_bucket_weights] 160) = w0 at x0 S0 ⊢
  refine (int_c S0.own x.kind (by have := S0.len; simp only [List.length_append, List.length_nil, encI_length, bB_length, leB_length] at this hm; omega)).mono ?_
  rintro e w1 ⟨v1, rfl, hG1⟩
  obtain ⟨L1, g1, S1⟩ := S0.then hG1
  obtain ⟨a1, c1, rfl, -, -⟩ := S1.own.shape
  have x1 : w1.heap[w.heap.size]? = some (Obj.cells #[Value.int IntKind.i64 x.kind, Value.int IntKind.i64 x.osd, Value.int IntKind.i64 x.value, Value.int IntKind.i64 x.pool.id, Value.int IntKind.i64 x.pool.size, Value.int IntKind.i64 x.pool.min, Value.int IntKind.i64 x.pool.pgs, Value.int IntKind.i64 x.bucket.id, Value.int IntKind.i64 x.bucket.kind, Value.slice a_v_bucket_items x.bucket.items.length c_v_bucket_items, Value.slice a_v_bucket_weights x.bucket.weights.length c_v_bucket_weights] 160) := (hG1.old _ (lt_in x0) (fun hh => S0.own.ne x0 (by decide) _ hh rfl)).trans x0
  have z1 : w1.cell? ⟨w.heap.size, 1, none⟩ = some (Value.int IntKind.i64 x.osd) := cell_in x1
  have lx := lt_in x1
  go_wp2_with fail
  clear z1 lx
  refine (int_c S1.own x.osd (by have := S1.len; simp only [List.length_append, List.length_nil, encI_length, bB_length, leB_length] at this hm; omega)).mono ?_
  rintro e w2 ⟨v2, rfl, hG2⟩
  obtain ⟨L2, g2, S2⟩ := S1.then hG2
  obtain ⟨a2, c2, rfl, -, -⟩ := S2.own.shape
  have x2 : w2.heap[w.heap.size]? = some (Obj.cells #[Value.int IntKind.i64 x.kind, Value.int IntKind.i64 x.osd, Value.int IntKind.i64 x.value, Value.int IntKind.i64 x.pool.id, Value.int IntKind.i64 x.pool.size, Value.int IntKind.i64 x.pool.min, Value.int IntKind.i64 x.pool.pgs, Value.int IntKind.i64 x.bucket.id, Value.int IntKind.i64 x.bucket.kind, Value.slice a_v_bucket_items x.bucket.items.length c_v_bucket_items, Value.slice a_v_bucket_weights x.bucket.weights.length c_v_bucket_weights] 160) := (hG2.old _ (lt_in x1) (fun hh => S1.own.ne x1 (by decide) _ hh rfl)).trans x1
  have z2 : w2.cell? ⟨w.heap.size, 2, none⟩ = some (Value.int IntKind.i64 x.value) := cell_in x2
  have lx := lt_in x2
  go_wp2_with fail
  clear z2 lx
  refine (int_c S2.own x.value (by have := S2.len; simp only [List.length_append, List.length_nil, encI_length, bB_length, leB_length] at this hm; omega)).mono ?_
  rintro e w3 ⟨v3, rfl, hG3⟩
  obtain ⟨L3, g3, S3⟩ := S2.then hG3
  obtain ⟨a3, c3, rfl, -, -⟩ := S3.own.shape
  have x3 : w3.heap[w.heap.size]? = some (Obj.cells #[Value.int IntKind.i64 x.kind, Value.int IntKind.i64 x.osd, Value.int IntKind.i64 x.value, Value.int IntKind.i64 x.pool.id, Value.int IntKind.i64 x.pool.size, Value.int IntKind.i64 x.pool.min, Value.int IntKind.i64 x.pool.pgs, Value.int IntKind.i64 x.bucket.id, Value.int IntKind.i64 x.bucket.kind, Value.slice a_v_bucket_items x.bucket.items.length c_v_bucket_items, Value.slice a_v_bucket_weights x.bucket.weights.length c_v_bucket_weights] 160) := (hG3.old _ (lt_in x2) (fun hh => S2.own.ne x2 (by decide) _ hh rfl)).trans x2
  have z3 : w3.cell? ⟨w.heap.size, 3, none⟩ = some (Value.int IntKind.i64 x.pool.id) := cell_in x3
  have z4 : w3.cell? ⟨w.heap.size, 4, none⟩ = some (Value.int IntKind.i64 x.pool.size) := cell_in x3
  have z5 : w3.cell? ⟨w.heap.size, 5, none⟩ = some (Value.int IntKind.i64 x.pool.min) := cell_in x3
  have z6 : w3.cell? ⟨w.heap.size, 6, none⟩ = some (Value.int IntKind.i64 x.pool.pgs) := cell_in x3
  have lx := lt_in x3
  go_wp2_with fail
  clear z3 z4 z5 z6 lx
  refine (putPool_c S3.own x.pool (by have := S3.len; simp only [List.length_append, List.length_nil, encI_length, bB_length, leB_length] at this hm; omega)).mono ?_
  rintro e w4 ⟨v4, rfl, hG4⟩
  obtain ⟨L4, g4, S4⟩ := S3.then hG4
  obtain ⟨a4, c4, rfl, -, -⟩ := S4.own.shape
  have x4 : w4.heap[w.heap.size]? = some (Obj.cells #[Value.int IntKind.i64 x.kind, Value.int IntKind.i64 x.osd, Value.int IntKind.i64 x.value, Value.int IntKind.i64 x.pool.id, Value.int IntKind.i64 x.pool.size, Value.int IntKind.i64 x.pool.min, Value.int IntKind.i64 x.pool.pgs, Value.int IntKind.i64 x.bucket.id, Value.int IntKind.i64 x.bucket.kind, Value.slice a_v_bucket_items x.bucket.items.length c_v_bucket_items, Value.slice a_v_bucket_weights x.bucket.weights.length c_v_bucket_weights] 160) := (hG4.old _ (lt_in x3) (fun hh => S3.own.ne x3 (by decide) _ hh rfl)).trans x3
  have z7 : w4.cell? ⟨w.heap.size, 7, none⟩ = some (Value.int IntKind.i64 x.bucket.id) := cell_in x4
  have z8 : w4.cell? ⟨w.heap.size, 8, none⟩ = some (Value.int IntKind.i64 x.bucket.kind) := cell_in x4
  have z9 : w4.cell? ⟨w.heap.size, 9, none⟩ = some (Value.slice a_v_bucket_items x.bucket.items.length c_v_bucket_items) := cell_in x4
  have z10 : w4.cell? ⟨w.heap.size, 10, none⟩ = some (Value.slice a_v_bucket_weights x.bucket.weights.length c_v_bucket_weights) := cell_in x4
  have lx := lt_in x4
  go_wp2_with fail
  clear z7 z8 z9 z10 lx
  have hd4 := S4.data hS
  have hx4 : BucketT.Is w4 S [Value.int IntKind.i64 x.bucket.id, Value.int IntKind.i64 x.bucket.kind, Value.slice a_v_bucket_items x.bucket.items.length c_v_bucket_items, Value.slice a_v_bucket_weights x.bucket.weights.length c_v_bucket_weights] x.bucket := ⟨_, _, rfl, i7, i8, l0.heap (fun _ _ h => intIs.heap h) (fun _ h => h) hd4, l1.heap (fun _ _ h => intIs.heap h) (fun _ h => h) hd4⟩
  refine (putBucket_c (S := S) S4.own (fun k hk => ⟨Nat.lt_of_lt_of_le (hS k hk).1 S4.kept.size, fun hh => by rcases S4.new k hh with h' | h'; exact (hS k hk).2 h'; exact absurd (hS k hk).1 (by omega)⟩) x.bucket hx4 (by have := S4.len; simp only [List.length_append, List.length_nil, encI_length, bB_length, leB_length] at this hm; omega)).mono ?_
  rintro e w5 ⟨v5, rfl, hG5⟩
  obtain ⟨L5, g5, S5⟩ := S4.then hG5
  obtain ⟨a5, c5, rfl, -, -⟩ := S5.own.shape
  have x5 : w5.heap[w.heap.size]? = some (Obj.cells #[Value.int IntKind.i64 x.kind, Value.int IntKind.i64 x.osd, Value.int IntKind.i64 x.value, Value.int IntKind.i64 x.pool.id, Value.int IntKind.i64 x.pool.size, Value.int IntKind.i64 x.pool.min, Value.int IntKind.i64 x.pool.pgs, Value.int IntKind.i64 x.bucket.id, Value.int IntKind.i64 x.bucket.kind, Value.slice a_v_bucket_items x.bucket.items.length c_v_bucket_items, Value.slice a_v_bucket_weights x.bucket.weights.length c_v_bucket_weights] 160) := (hG5.old _ (lt_in x4) (fun hh => S4.own.ne x4 (by decide) _ hh rfl)).trans x4
  go_wp2
  go_ret
  exact ⟨_, rfl, S5.done⟩

structure MapT where
  epoch : Int
  osds : List OsdT
  pools : List PoolT
  buckets : List BucketT
  leaf : Int

def MapT.Is (w : World) (S : Nat → Prop) (cs : List Value) (x : MapT) : Prop := ∃ v_osds v_pools v_buckets : Value, cs = [Value.int IntKind.i64 x.epoch, v_osds, v_pools, v_buckets, Value.int IntKind.i64 x.leaf] ∧ in64 x.epoch ∧ in64 x.leaf ∧ ListIs 6 OsdT.Is w S v_osds x.osds ∧ ListIs 4 PoolT.Is w S v_pools x.pools ∧ ListIs 4 BucketT.Is w S v_buckets x.buckets
def MapT.enc (x : MapT) : List UInt8 := [] ++ encI x.epoch ++ leB 4 x.osds.length ++ x.osds.flatMap OsdT.enc ++ leB 4 x.pools.length ++ x.pools.flatMap PoolT.enc ++ leB 4 x.buckets.length ++ x.buckets.flatMap BucketT.enc ++ encI x.leaf
theorem MapT.Is.heap {w w' : World} {S S' : Nat → Prop} {cs : List Value} {x : MapT} (h : MapT.Is w S cs x) (hS : ∀ k, S k → S' k) (hk : ∀ k, S k → w'.heap[k]? = w.heap[k]?) : MapT.Is w' S' cs x := by
  obtain ⟨v_osds, v_pools, v_buckets, rfl, i0, i1, l0, l1, l2⟩ := h
  exact ⟨v_osds, v_pools, v_buckets, rfl, i0, i1, l0.heap (fun _ _ h => OsdT.Is.heap h) hS hk, l1.heap (fun _ _ h => PoolT.Is.heap h) hS hk, l2.heap (fun _ _ h => BucketT.Is.heap h hS hk) hS hk⟩

set_option maxRecDepth 100000 in
set_option maxHeartbeats 1600000 in
theorem putMap_c {w : World} {v : Value} {out : List UInt8} {g : Option Nat} (h : Own w 5 1 v out.length (out.map bv) g) {S : Nat → Prop} (hS : ∀ k, S k → k < w.heap.size ∧ g ≠ some k) (x : MapT) {cs : List Value} (hx : MapT.Is w S cs x) (hm : out.length + x.enc.length ≤ 90000000000000) :
    Calls Tryz.prog 48 #[v, .agg cs.toArray] w fun e w' => ∃ v', e = .returned v' ∧ Grew w w' v' out g x.enc := by
  obtain ⟨v_osds, v_pools, v_buckets, rfl, i0, i1, l0, l1, l2⟩ := hx
  obtain ⟨a_v_osds, c_v_osds, rfl, -⟩ := l0.shape
  obtain ⟨a_v_pools, c_v_pools, rfl, -⟩ := l1.shape
  obtain ⟨a_v_buckets, c_v_buckets, rfl, -⟩ := l2.shape
  simp only [MapT.enc] at hm ⊢
  obtain ⟨a0, c0, rfl, -, -⟩ := h.shape
  go_enter Tryz.func48, Tryz.ntmps48
  go_wp2_with fail
  have x0 : (w.alloc (Obj.cells #[Value.int IntKind.i64 x.epoch, Value.slice a_v_osds x.osds.length c_v_osds, Value.slice a_v_pools x.pools.length c_v_pools, Value.slice a_v_buckets x.buckets.length c_v_buckets, Value.int IntKind.i64 x.leaf] 70)).heap[w.heap.size]? = some (Obj.cells #[Value.int IntKind.i64 x.epoch, Value.slice a_v_osds x.osds.length c_v_osds, Value.slice a_v_pools x.pools.length c_v_pools, Value.slice a_v_buckets x.buckets.length c_v_buckets, Value.int IntKind.i64 x.leaf] 70) := heap_alloc_new' _ _
  have S0 := (Out.start h).alloc (Obj.cells #[Value.int IntKind.i64 x.epoch, Value.slice a_v_osds x.osds.length c_v_osds, Value.slice a_v_pools x.pools.length c_v_pools, Value.slice a_v_buckets x.buckets.length c_v_buckets, Value.int IntKind.i64 x.leaf] 70)
  generalize w.alloc (Obj.cells #[Value.int IntKind.i64 x.epoch, Value.slice a_v_osds x.osds.length c_v_osds, Value.slice a_v_pools x.pools.length c_v_pools, Value.slice a_v_buckets x.buckets.length c_v_buckets, Value.int IntKind.i64 x.leaf] 70) = w0 at x0 S0 ⊢
  refine (int_c S0.own x.epoch (by have := S0.len; simp only [List.length_append, List.length_nil, encI_length, bB_length, leB_length] at this hm; omega)).mono ?_
  rintro e w1 ⟨v1, rfl, hG1⟩
  obtain ⟨L1, g1, S1⟩ := S0.then hG1
  obtain ⟨a1, c1, rfl, -, -⟩ := S1.own.shape
  have x1 : w1.heap[w.heap.size]? = some (Obj.cells #[Value.int IntKind.i64 x.epoch, Value.slice a_v_osds x.osds.length c_v_osds, Value.slice a_v_pools x.pools.length c_v_pools, Value.slice a_v_buckets x.buckets.length c_v_buckets, Value.int IntKind.i64 x.leaf] 70) := (hG1.old _ (lt_in x0) (fun hh => S0.own.ne x0 (by decide) _ hh rfl)).trans x0
  have z1 : w1.cell? ⟨w.heap.size, 1, none⟩ = some (Value.slice a_v_osds x.osds.length c_v_osds) := cell_in x1
  have lx := lt_in x1
  go_wp2_with fail
  clear z1 lx
  refine (countRef_c S1.own x.osds.length (by have := S1.len; simp only [List.length_append, List.length_nil, encI_length, bB_length, leB_length] at this hm; omega)).mono ?_
  rintro e w2 ⟨v2, rfl, hG2⟩
  obtain ⟨L2, g2, S2⟩ := S1.then hG2
  obtain ⟨a2, c2, rfl, -, -⟩ := S2.own.shape
  have x2 : w2.heap[w.heap.size]? = some (Obj.cells #[Value.int IntKind.i64 x.epoch, Value.slice a_v_osds x.osds.length c_v_osds, Value.slice a_v_pools x.pools.length c_v_pools, Value.slice a_v_buckets x.buckets.length c_v_buckets, Value.int IntKind.i64 x.leaf] 70) := (hG2.old _ (lt_in x1) (fun hh => S1.own.ne x1 (by decide) _ hh rfl)).trans x1
  have z1 : w2.cell? ⟨w.heap.size, 1, none⟩ = some (Value.slice a_v_osds x.osds.length c_v_osds) := cell_in x2
  have lx := lt_in x2
  go_wp2
  clear z1 lx
  go_loopw [23, 0] (fun i o w' => ∃ (k : Nat) (L : List UInt8) (gL : Option Nat), k ≤ x.osds.length ∧ i = .int .i64 k ∧ Out w w' o out g (([] ++ encI x.epoch ++ leB 4 x.osds.length) ++ (x.osds.take k).flatMap OsdT.enc) L gL ∧ w'.heap[w.heap.size]? = some (Obj.cells #[Value.int IntKind.i64 x.epoch, Value.slice a_v_osds x.osds.length c_v_osds, Value.slice a_v_pools x.pools.length c_v_pools, Value.slice a_v_buckets x.buckets.length c_v_buckets, Value.int IntKind.i64 x.leaf] 70)) (fun i _ _ => x.osds.length - (intOf i).toNat)
  case atStart => exact ⟨0, L2, g2, by omega, rfl, S2.cast (by simp), x2⟩
  case round =>
    obtain ⟨k, L, gL, hk, rfl, SL, xl⟩ := hrel
    by_cases hk2 : k < x.osds.length
    · have hki : (k : Int) < (x.osds.length : Int) := by omega
      have hnl : x.osds.length ≤ 9223372036854775807 := l0.small
      have hd := SL.data hS
      obtain ⟨b, off, cs, rfl, hb, hcl, hcell, hr⟩ := (l0.heap (fun _ _ h => OsdT.Is.heap h) (fun _ h => h) hd).at hk2
      have hfl := flatMap_le OsdT.enc x.osds (k + 1)
      have hft := flatMap_take OsdT.enc x.osds k hk2
      rw [hft, List.length_append] at hfl
      obtain ⟨e, he⟩ : ∃ e, e = x.osds[k] := ⟨_, rfl⟩
      rw [← he] at hr hft hfl
      have HFT := Lib.hid hft
      clear hft he hcl
      obtain ⟨aL, cL, rfl, -, -⟩ := SL.own.shape
      obtain ⟨rfl, -⟩ := hr
      have y0 : wr.cell? ⟨b, off + k * 6, none⟩ = some (Value.bool e.ex) := hcell 0 (by omega)
      have y1 : wr.cell? ⟨b, off + k * 6 + 1, none⟩ = some (Value.bool e.up) := hcell 1 (by omega)
      have y2 : wr.cell? ⟨b, off + k * 6 + 2, none⟩ = some (Value.int IntKind.i64 e.weight) := hcell 2 (by omega)
      have y3 : wr.cell? ⟨b, off + k * 6 + 3, none⟩ = some (Value.int IntKind.i64 e.boot) := hcell 3 (by omega)
      have y4 : wr.cell? ⟨b, off + k * 6 + 4, none⟩ = some (Value.int IntKind.i64 e.upFrom) := hcell 4 (by omega)
      have y5 : wr.cell? ⟨b, off + k * 6 + 5, none⟩ = some (Value.int IntKind.i64 e.upThru) := hcell 5 (by omega)
      go_wp2_with fail
      have SA := SL.alloc (Obj.cells #[Value.bool e.ex, Value.bool e.up, Value.int IntKind.i64 e.weight, Value.int IntKind.i64 e.boot, Value.int IntKind.i64 e.upFrom, Value.int IntKind.i64 e.upThru] 215)
      have xa : (wr.alloc (Obj.cells #[Value.bool e.ex, Value.bool e.up, Value.int IntKind.i64 e.weight, Value.int IntKind.i64 e.boot, Value.int IntKind.i64 e.upFrom, Value.int IntKind.i64 e.upThru] 215)).heap[w.heap.size]? = _ := (Below.heap_alloc _ _ _ (lt_in xl)).trans xl
      generalize wr.alloc (Obj.cells #[Value.bool e.ex, Value.bool e.up, Value.int IntKind.i64 e.weight, Value.int IntKind.i64 e.boot, Value.int IntKind.i64 e.upFrom, Value.int IntKind.i64 e.upThru] 215) = wa at SA xa ⊢
      refine (putOsd_c SA.own e (by have := SL.len; simp only [List.length_append, List.length_nil, encI_length, bB_length, leB_length] at this hm hfl; omega)).mono ?_
      rintro _ w9 ⟨v9, rfl, hG⟩
      obtain ⟨L9, g9, S9⟩ := SA.then hG
      have xl9 : w9.heap[w.heap.size]? = _ := (hG.old _ (lt_in xa) (fun hh => SA.own.ne xa (by decide) _ hh rfl)).trans xa
      obtain ⟨a9, c9, rfl, -, -⟩ := S9.own.shape
      have X9 := Lib.hid xl9
      have HS9 := Lib.hid (S9.cast (more' := ([] ++ encI x.epoch ++ leB 4 x.osds.length) ++ (x.osds.take (k + 1)).flatMap OsdT.enc) (by rw [HFT.out, List.append_assoc]))
      clear xl9 S9 hG
      go_wp2
      exact ⟨⟨k + 1, L9, g9, by omega, by simp, HS9.out, X9.out⟩, by simp [intOf]; omega⟩
    · obtain rfl : k = x.osds.length := by omega
      have S3 : Out w wr _ out g (([] ++ encI x.epoch ++ leB 4 x.osds.length) ++ x.osds.flatMap OsdT.enc) L gL := SL.cast (by rw [List.take_length])
      obtain ⟨a3, c3, rfl, -, -⟩ := S3.own.shape
      have x3 := xl
      rename World => w3
      clear SL xl
      have z2 : w3.cell? ⟨w.heap.size, 2, none⟩ = some (Value.slice a_v_pools x.pools.length c_v_pools) := cell_in x3
      have lx := lt_in x3
      go_wp2_with fail
      clear z2 lx
      refine (countRef_c S3.own x.pools.length (by have := S3.len; simp only [List.length_append, List.length_nil, encI_length, bB_length, leB_length] at this hm; omega)).mono ?_
      rintro e w4 ⟨v4, rfl, hG4⟩
      obtain ⟨L4, g4, S4⟩ := S3.then hG4
      obtain ⟨a4, c4, rfl, -, -⟩ := S4.own.shape
      have x4 : w4.heap[w.heap.size]? = some (Obj.cells #[Value.int IntKind.i64 x.epoch, Value.slice a_v_osds x.osds.length c_v_osds, Value.slice a_v_pools x.pools.length c_v_pools, Value.slice a_v_buckets x.buckets.length c_v_buckets, Value.int IntKind.i64 x.leaf] 70) := (hG4.old _ (lt_in x3) (fun hh => S3.own.ne x3 (by decide) _ hh rfl)).trans x3
      have z2 : w4.cell? ⟨w.heap.size, 2, none⟩ = some (Value.slice a_v_pools x.pools.length c_v_pools) := cell_in x4
      have lx := lt_in x4
      go_wp2
      clear z2 lx
      go_loopw [39, 0] (fun i o w' => ∃ (k : Nat) (L : List UInt8) (gL : Option Nat), k ≤ x.pools.length ∧ i = .int .i64 k ∧ Out w w' o out g (([] ++ encI x.epoch ++ leB 4 x.osds.length ++ x.osds.flatMap OsdT.enc ++ leB 4 x.pools.length) ++ (x.pools.take k).flatMap PoolT.enc) L gL ∧ w'.heap[w.heap.size]? = some (Obj.cells #[Value.int IntKind.i64 x.epoch, Value.slice a_v_osds x.osds.length c_v_osds, Value.slice a_v_pools x.pools.length c_v_pools, Value.slice a_v_buckets x.buckets.length c_v_buckets, Value.int IntKind.i64 x.leaf] 70)) (fun i _ _ => x.pools.length - (intOf i).toNat)
      case atStart => exact ⟨0, L4, g4, by omega, rfl, S4.cast (by simp), x4⟩
      case round =>
        obtain ⟨k, L, gL, hk, rfl, SL, xl⟩ := hrel
        by_cases hk2 : k < x.pools.length
        · have hki : (k : Int) < (x.pools.length : Int) := by omega
          have hnl : x.pools.length ≤ 9223372036854775807 := l1.small
          have hd := SL.data hS
          obtain ⟨b, off, cs, rfl, hb, hcl, hcell, hr⟩ := (l1.heap (fun _ _ h => PoolT.Is.heap h) (fun _ h => h) hd).at hk2
          have hfl := flatMap_le PoolT.enc x.pools (k + 1)
          have hft := flatMap_take PoolT.enc x.pools k hk2
          rw [hft, List.length_append] at hfl
          obtain ⟨e, he⟩ : ∃ e, e = x.pools[k] := ⟨_, rfl⟩
          rw [← he] at hr hft hfl
          have HFT := Lib.hid hft
          clear hft he hcl
          obtain ⟨aL, cL, rfl, -, -⟩ := SL.own.shape
          obtain ⟨rfl, -⟩ := hr
          have y0 : wr.cell? ⟨b, off + k * 4, none⟩ = some (Value.int IntKind.i64 e.id) := hcell 0 (by omega)
          have y1 : wr.cell? ⟨b, off + k * 4 + 1, none⟩ = some (Value.int IntKind.i64 e.size) := hcell 1 (by omega)
          have y2 : wr.cell? ⟨b, off + k * 4 + 2, none⟩ = some (Value.int IntKind.i64 e.min) := hcell 2 (by omega)
          have y3 : wr.cell? ⟨b, off + k * 4 + 3, none⟩ = some (Value.int IntKind.i64 e.pgs) := hcell 3 (by omega)
          go_wp2_with fail
          have SA := SL.alloc (Obj.cells #[Value.int IntKind.i64 e.id, Value.int IntKind.i64 e.size, Value.int IntKind.i64 e.min, Value.int IntKind.i64 e.pgs] 155)
          have xa : (wr.alloc (Obj.cells #[Value.int IntKind.i64 e.id, Value.int IntKind.i64 e.size, Value.int IntKind.i64 e.min, Value.int IntKind.i64 e.pgs] 155)).heap[w.heap.size]? = _ := (Below.heap_alloc _ _ _ (lt_in xl)).trans xl
          generalize wr.alloc (Obj.cells #[Value.int IntKind.i64 e.id, Value.int IntKind.i64 e.size, Value.int IntKind.i64 e.min, Value.int IntKind.i64 e.pgs] 155) = wa at SA xa ⊢
          refine (putPool_c SA.own e (by have := SL.len; simp only [List.length_append, List.length_nil, encI_length, bB_length, leB_length] at this hm hfl; omega)).mono ?_
          rintro _ w9 ⟨v9, rfl, hG⟩
          obtain ⟨L9, g9, S9⟩ := SA.then hG
          have xl9 : w9.heap[w.heap.size]? = _ := (hG.old _ (lt_in xa) (fun hh => SA.own.ne xa (by decide) _ hh rfl)).trans xa
          obtain ⟨a9, c9, rfl, -, -⟩ := S9.own.shape
          have X9 := Lib.hid xl9
          have HS9 := Lib.hid (S9.cast (more' := ([] ++ encI x.epoch ++ leB 4 x.osds.length ++ x.osds.flatMap OsdT.enc ++ leB 4 x.pools.length) ++ (x.pools.take (k + 1)).flatMap PoolT.enc) (by rw [HFT.out, List.append_assoc]))
          clear xl9 S9 hG
          go_wp2
          exact ⟨⟨k + 1, L9, g9, by omega, by simp, HS9.out, X9.out⟩, by simp [intOf]; omega⟩
        · obtain rfl : k = x.pools.length := by omega
          have S5 : Out w wr _ out g (([] ++ encI x.epoch ++ leB 4 x.osds.length ++ x.osds.flatMap OsdT.enc ++ leB 4 x.pools.length) ++ x.pools.flatMap PoolT.enc) L gL := SL.cast (by rw [List.take_length])
          obtain ⟨a5, c5, rfl, -, -⟩ := S5.own.shape
          have x5 := xl
          rename World => w5
          clear SL xl
          have z3 : w5.cell? ⟨w.heap.size, 3, none⟩ = some (Value.slice a_v_buckets x.buckets.length c_v_buckets) := cell_in x5
          have lx := lt_in x5
          go_wp2_with fail
          clear z3 lx
          refine (countRef_c S5.own x.buckets.length (by have := S5.len; simp only [List.length_append, List.length_nil, encI_length, bB_length, leB_length] at this hm; omega)).mono ?_
          rintro e w6 ⟨v6, rfl, hG6⟩
          obtain ⟨L6, g6, S6⟩ := S5.then hG6
          obtain ⟨a6, c6, rfl, -, -⟩ := S6.own.shape
          have x6 : w6.heap[w.heap.size]? = some (Obj.cells #[Value.int IntKind.i64 x.epoch, Value.slice a_v_osds x.osds.length c_v_osds, Value.slice a_v_pools x.pools.length c_v_pools, Value.slice a_v_buckets x.buckets.length c_v_buckets, Value.int IntKind.i64 x.leaf] 70) := (hG6.old _ (lt_in x5) (fun hh => S5.own.ne x5 (by decide) _ hh rfl)).trans x5
          have z3 : w6.cell? ⟨w.heap.size, 3, none⟩ = some (Value.slice a_v_buckets x.buckets.length c_v_buckets) := cell_in x6
          have lx := lt_in x6
          go_wp2
          clear z3 lx
          go_loopw [55, 0] (fun i o w' => ∃ (k : Nat) (L : List UInt8) (gL : Option Nat), k ≤ x.buckets.length ∧ i = .int .i64 k ∧ Out w w' o out g (([] ++ encI x.epoch ++ leB 4 x.osds.length ++ x.osds.flatMap OsdT.enc ++ leB 4 x.pools.length ++ x.pools.flatMap PoolT.enc ++ leB 4 x.buckets.length) ++ (x.buckets.take k).flatMap BucketT.enc) L gL ∧ w'.heap[w.heap.size]? = some (Obj.cells #[Value.int IntKind.i64 x.epoch, Value.slice a_v_osds x.osds.length c_v_osds, Value.slice a_v_pools x.pools.length c_v_pools, Value.slice a_v_buckets x.buckets.length c_v_buckets, Value.int IntKind.i64 x.leaf] 70)) (fun i _ _ => x.buckets.length - (intOf i).toNat)
          case atStart => exact ⟨0, L6, g6, by omega, rfl, S6.cast (by simp), x6⟩
          case round =>
            obtain ⟨k, L, gL, hk, rfl, SL, xl⟩ := hrel
            by_cases hk2 : k < x.buckets.length
            · have hki : (k : Int) < (x.buckets.length : Int) := by omega
              have hnl : x.buckets.length ≤ 9223372036854775807 := l2.small
              have hd := SL.data hS
              obtain ⟨b, off, cs, rfl, hb, hcl, hcell, hr⟩ := (l2.heap (fun _ _ h => BucketT.Is.heap h (fun _ h => h) hd) (fun _ h => h) hd).at hk2
              have hfl := flatMap_le BucketT.enc x.buckets (k + 1)
              have hft := flatMap_take BucketT.enc x.buckets k hk2
              rw [hft, List.length_append] at hfl
              obtain ⟨e, he⟩ : ∃ e, e = x.buckets[k] := ⟨_, rfl⟩
              rw [← he] at hr hft hfl
              have HFT := Lib.hid hft
              clear hft he hcl
              obtain ⟨aL, cL, rfl, -, -⟩ := SL.own.shape
              have hr0 := hr
              obtain ⟨uv_items, uv_weights, rfl, -, -, m0, m1⟩ := hr
              obtain ⟨au0, cu0, rfl, -⟩ := m0.shape
              obtain ⟨au1, cu1, rfl, -⟩ := m1.shape
              have y0 : wr.cell? ⟨b, off + k * 4, none⟩ = some (Value.int IntKind.i64 e.id) := hcell 0 (by omega)
              have y1 : wr.cell? ⟨b, off + k * 4 + 1, none⟩ = some (Value.int IntKind.i64 e.kind) := hcell 1 (by omega)
              have y2 : wr.cell? ⟨b, off + k * 4 + 2, none⟩ = some (Value.slice au0 e.items.length cu0) := hcell 2 (by omega)
              have y3 : wr.cell? ⟨b, off + k * 4 + 3, none⟩ = some (Value.slice au1 e.weights.length cu1) := hcell 3 (by omega)
              go_wp2_with fail
              have SA := SL.alloc (Obj.cells #[Value.int IntKind.i64 e.id, Value.int IntKind.i64 e.kind, Value.slice au0 e.items.length cu0, Value.slice au1 e.weights.length cu1] 158)
              have xa : (wr.alloc (Obj.cells #[Value.int IntKind.i64 e.id, Value.int IntKind.i64 e.kind, Value.slice au0 e.items.length cu0, Value.slice au1 e.weights.length cu1] 158)).heap[w.heap.size]? = _ := (Below.heap_alloc _ _ _ (lt_in xl)).trans xl
              have hrA : BucketT.Is (wr.alloc (Obj.cells #[Value.int IntKind.i64 e.id, Value.int IntKind.i64 e.kind, Value.slice au0 e.items.length cu0, Value.slice au1 e.weights.length cu1] 158)) S _ e := hr0.heap (fun _ h => h) (fun k hk => Below.heap_alloc _ _ _ (Nat.lt_of_lt_of_le (hS k hk).1 SL.kept.size))
              generalize wr.alloc (Obj.cells #[Value.int IntKind.i64 e.id, Value.int IntKind.i64 e.kind, Value.slice au0 e.items.length cu0, Value.slice au1 e.weights.length cu1] 158) = wa at SA xa hrA ⊢
              refine (putBucket_c (S := S) SA.own (fun k hk => ⟨Nat.lt_of_lt_of_le (hS k hk).1 SA.kept.size, fun hh => by rcases SA.new k hh with h' | h'; exact (hS k hk).2 h'; exact absurd (hS k hk).1 (by omega)⟩) e hrA (by have := SL.len; simp only [List.length_append, List.length_nil, encI_length, bB_length, leB_length] at this hm hfl; omega)).mono ?_
              rintro _ w9 ⟨v9, rfl, hG⟩
              obtain ⟨L9, g9, S9⟩ := SA.then hG
              have xl9 : w9.heap[w.heap.size]? = _ := (hG.old _ (lt_in xa) (fun hh => SA.own.ne xa (by decide) _ hh rfl)).trans xa
              obtain ⟨a9, c9, rfl, -, -⟩ := S9.own.shape
              have X9 := Lib.hid xl9
              have HS9 := Lib.hid (S9.cast (more' := ([] ++ encI x.epoch ++ leB 4 x.osds.length ++ x.osds.flatMap OsdT.enc ++ leB 4 x.pools.length ++ x.pools.flatMap PoolT.enc ++ leB 4 x.buckets.length) ++ (x.buckets.take (k + 1)).flatMap BucketT.enc) (by rw [HFT.out, List.append_assoc]))
              clear xl9 S9 hG
              go_wp2
              exact ⟨⟨k + 1, L9, g9, by omega, by simp, HS9.out, X9.out⟩, by simp [intOf]; omega⟩
            · obtain rfl : k = x.buckets.length := by omega
              have S7 : Out w wr _ out g (([] ++ encI x.epoch ++ leB 4 x.osds.length ++ x.osds.flatMap OsdT.enc ++ leB 4 x.pools.length ++ x.pools.flatMap PoolT.enc ++ leB 4 x.buckets.length) ++ x.buckets.flatMap BucketT.enc) L gL := SL.cast (by rw [List.take_length])
              obtain ⟨a7, c7, rfl, -, -⟩ := S7.own.shape
              have x7 := xl
              rename World => w7
              clear SL xl
              have z4 : w7.cell? ⟨w.heap.size, 4, none⟩ = some (Value.int IntKind.i64 x.leaf) := cell_in x7
              have lx := lt_in x7
              go_wp2_with fail
              clear z4 lx
              refine (int_c S7.own x.leaf (by have := S7.len; simp only [List.length_append, List.length_nil, encI_length, bB_length, leB_length] at this hm; omega)).mono ?_
              rintro e w8 ⟨v8, rfl, hG8⟩
              obtain ⟨L8, g8, S8⟩ := S7.then hG8
              obtain ⟨a8, c8, rfl, -, -⟩ := S8.own.shape
              have x8 : w8.heap[w.heap.size]? = some (Obj.cells #[Value.int IntKind.i64 x.epoch, Value.slice a_v_osds x.osds.length c_v_osds, Value.slice a_v_pools x.pools.length c_v_pools, Value.slice a_v_buckets x.buckets.length c_v_buckets, Value.int IntKind.i64 x.leaf] 70) := (hG8.old _ (lt_in x7) (fun hh => S7.own.ne x7 (by decide) _ hh rfl)).trans x7
              go_wp2
              go_ret
              exact ⟨_, rfl, S8.done⟩

structure IncT where
  epoch : Int
  changes : List ChangeT

def IncT.Is (w : World) (S : Nat → Prop) (cs : List Value) (x : IncT) : Prop := ∃ v_changes : Value, cs = [Value.int IntKind.i64 x.epoch, v_changes] ∧ in64 x.epoch ∧ ListIs 11 ChangeT.Is w S v_changes x.changes
def IncT.enc (x : IncT) : List UInt8 := [] ++ encI x.epoch ++ leB 4 x.changes.length ++ x.changes.flatMap ChangeT.enc
theorem IncT.Is.heap {w w' : World} {S S' : Nat → Prop} {cs : List Value} {x : IncT} (h : IncT.Is w S cs x) (hS : ∀ k, S k → S' k) (hk : ∀ k, S k → w'.heap[k]? = w.heap[k]?) : IncT.Is w' S' cs x := by
  obtain ⟨v_changes, rfl, i0, l0⟩ := h
  exact ⟨v_changes, rfl, i0, l0.heap (fun _ _ h => ChangeT.Is.heap h hS hk) hS hk⟩

set_option maxRecDepth 100000 in
set_option maxHeartbeats 1600000 in
theorem putInc_c {w : World} {v : Value} {out : List UInt8} {g : Option Nat} (h : Own w 5 1 v out.length (out.map bv) g) {S : Nat → Prop} (hS : ∀ k, S k → k < w.heap.size ∧ g ≠ some k) (x : IncT) {cs : List Value} (hx : IncT.Is w S cs x) (hm : out.length + x.enc.length ≤ 90000000000000) :
    Calls Tryz.prog 43 #[v, .agg cs.toArray] w fun e w' => ∃ v', e = .returned v' ∧ Grew w w' v' out g x.enc := by
  obtain ⟨v_changes, rfl, i0, l0⟩ := hx
  obtain ⟨a_v_changes, c_v_changes, rfl, -⟩ := l0.shape
  simp only [IncT.enc] at hm ⊢
  obtain ⟨a0, c0, rfl, -, -⟩ := h.shape
  go_enter Tryz.func43, Tryz.ntmps43
  go_wp2_with fail
  have x0 : (w.alloc (Obj.cells #[Value.int IntKind.i64 x.epoch, Value.slice a_v_changes x.changes.length c_v_changes] 60)).heap[w.heap.size]? = some (Obj.cells #[Value.int IntKind.i64 x.epoch, Value.slice a_v_changes x.changes.length c_v_changes] 60) := heap_alloc_new' _ _
  have S0 := (Out.start h).alloc (Obj.cells #[Value.int IntKind.i64 x.epoch, Value.slice a_v_changes x.changes.length c_v_changes] 60)
  generalize w.alloc (Obj.cells #[Value.int IntKind.i64 x.epoch, Value.slice a_v_changes x.changes.length c_v_changes] 60) = w0 at x0 S0 ⊢
  refine (int_c S0.own x.epoch (by have := S0.len; simp only [List.length_append, List.length_nil, encI_length, bB_length, leB_length] at this hm; omega)).mono ?_
  rintro e w1 ⟨v1, rfl, hG1⟩
  obtain ⟨L1, g1, S1⟩ := S0.then hG1
  obtain ⟨a1, c1, rfl, -, -⟩ := S1.own.shape
  have x1 : w1.heap[w.heap.size]? = some (Obj.cells #[Value.int IntKind.i64 x.epoch, Value.slice a_v_changes x.changes.length c_v_changes] 60) := (hG1.old _ (lt_in x0) (fun hh => S0.own.ne x0 (by decide) _ hh rfl)).trans x0
  have z1 : w1.cell? ⟨w.heap.size, 1, none⟩ = some (Value.slice a_v_changes x.changes.length c_v_changes) := cell_in x1
  have lx := lt_in x1
  go_wp2_with fail
  clear z1 lx
  refine (countRef_c S1.own x.changes.length (by have := S1.len; simp only [List.length_append, List.length_nil, encI_length, bB_length, leB_length] at this hm; omega)).mono ?_
  rintro e w2 ⟨v2, rfl, hG2⟩
  obtain ⟨L2, g2, S2⟩ := S1.then hG2
  obtain ⟨a2, c2, rfl, -, -⟩ := S2.own.shape
  have x2 : w2.heap[w.heap.size]? = some (Obj.cells #[Value.int IntKind.i64 x.epoch, Value.slice a_v_changes x.changes.length c_v_changes] 60) := (hG2.old _ (lt_in x1) (fun hh => S1.own.ne x1 (by decide) _ hh rfl)).trans x1
  have z1 : w2.cell? ⟨w.heap.size, 1, none⟩ = some (Value.slice a_v_changes x.changes.length c_v_changes) := cell_in x2
  have lx := lt_in x2
  go_wp2
  clear z1 lx
  go_loopw [19, 0] (fun i o w' => ∃ (k : Nat) (L : List UInt8) (gL : Option Nat), k ≤ x.changes.length ∧ i = .int .i64 k ∧ Out w w' o out g (([] ++ encI x.epoch ++ leB 4 x.changes.length) ++ (x.changes.take k).flatMap ChangeT.enc) L gL ∧ w'.heap[w.heap.size]? = some (Obj.cells #[Value.int IntKind.i64 x.epoch, Value.slice a_v_changes x.changes.length c_v_changes] 60)) (fun i _ _ => x.changes.length - (intOf i).toNat)
  case atStart => exact ⟨0, L2, g2, by omega, rfl, S2.cast (by simp), x2⟩
  case round =>
    obtain ⟨k, L, gL, hk, rfl, SL, xl⟩ := hrel
    by_cases hk2 : k < x.changes.length
    · have hki : (k : Int) < (x.changes.length : Int) := by omega
      have hnl : x.changes.length ≤ 9223372036854775807 := l0.small
      have hd := SL.data hS
      obtain ⟨b, off, cs, rfl, hb, hcl, hcell, hr⟩ := (l0.heap (fun _ _ h => ChangeT.Is.heap h (fun _ h => h) hd) (fun _ h => h) hd).at hk2
      have hfl := flatMap_le ChangeT.enc x.changes (k + 1)
      have hft := flatMap_take ChangeT.enc x.changes k hk2
      rw [hft, List.length_append] at hfl
      obtain ⟨e, he⟩ : ∃ e, e = x.changes[k] := ⟨_, rfl⟩
      rw [← he] at hr hft hfl
      have HFT := Lib.hid hft
      clear hft he hcl
      obtain ⟨aL, cL, rfl, -, -⟩ := SL.own.shape
      have hr0 := hr
      obtain ⟨uv_bucket_items, uv_bucket_weights, rfl, -, -, -, -, -, -, -, -, -, m0, m1⟩ := hr
      obtain ⟨au0, cu0, rfl, -⟩ := m0.shape
      obtain ⟨au1, cu1, rfl, -⟩ := m1.shape
      have y0 : wr.cell? ⟨b, off + k * 11, none⟩ = some (Value.int IntKind.i64 e.kind) := hcell 0 (by omega)
      have y1 : wr.cell? ⟨b, off + k * 11 + 1, none⟩ = some (Value.int IntKind.i64 e.osd) := hcell 1 (by omega)
      have y2 : wr.cell? ⟨b, off + k * 11 + 2, none⟩ = some (Value.int IntKind.i64 e.value) := hcell 2 (by omega)
      have y3 : wr.cell? ⟨b, off + k * 11 + 3, none⟩ = some (Value.int IntKind.i64 e.pool.id) := hcell 3 (by omega)
      have y4 : wr.cell? ⟨b, off + k * 11 + 4, none⟩ = some (Value.int IntKind.i64 e.pool.size) := hcell 4 (by omega)
      have y5 : wr.cell? ⟨b, off + k * 11 + 5, none⟩ = some (Value.int IntKind.i64 e.pool.min) := hcell 5 (by omega)
      have y6 : wr.cell? ⟨b, off + k * 11 + 6, none⟩ = some (Value.int IntKind.i64 e.pool.pgs) := hcell 6 (by omega)
      have y7 : wr.cell? ⟨b, off + k * 11 + 7, none⟩ = some (Value.int IntKind.i64 e.bucket.id) := hcell 7 (by omega)
      have y8 : wr.cell? ⟨b, off + k * 11 + 8, none⟩ = some (Value.int IntKind.i64 e.bucket.kind) := hcell 8 (by omega)
      have y9 : wr.cell? ⟨b, off + k * 11 + 9, none⟩ = some (Value.slice au0 e.bucket.items.length cu0) := hcell 9 (by omega)
      have y10 : wr.cell? ⟨b, off + k * 11 + 10, none⟩ = some (Value.slice au1 e.bucket.weights.length cu1) := hcell 10 (by omega)
      go_wp2_with fail
      have SA := SL.alloc (Obj.cells #[Value.int IntKind.i64 e.kind, Value.int IntKind.i64 e.osd, Value.int IntKind.i64 e.value, Value.int IntKind.i64 e.pool.id, Value.int IntKind.i64 e.pool.size, Value.int IntKind.i64 e.pool.min, Value.int IntKind.i64 e.pool.pgs, Value.int IntKind.i64 e.bucket.id, Value.int IntKind.i64 e.bucket.kind, Value.slice au0 e.bucket.items.length cu0, Value.slice au1 e.bucket.weights.length cu1] 160)
      have xa : (wr.alloc (Obj.cells #[Value.int IntKind.i64 e.kind, Value.int IntKind.i64 e.osd, Value.int IntKind.i64 e.value, Value.int IntKind.i64 e.pool.id, Value.int IntKind.i64 e.pool.size, Value.int IntKind.i64 e.pool.min, Value.int IntKind.i64 e.pool.pgs, Value.int IntKind.i64 e.bucket.id, Value.int IntKind.i64 e.bucket.kind, Value.slice au0 e.bucket.items.length cu0, Value.slice au1 e.bucket.weights.length cu1] 160)).heap[w.heap.size]? = _ := (Below.heap_alloc _ _ _ (lt_in xl)).trans xl
      have hrA : ChangeT.Is (wr.alloc (Obj.cells #[Value.int IntKind.i64 e.kind, Value.int IntKind.i64 e.osd, Value.int IntKind.i64 e.value, Value.int IntKind.i64 e.pool.id, Value.int IntKind.i64 e.pool.size, Value.int IntKind.i64 e.pool.min, Value.int IntKind.i64 e.pool.pgs, Value.int IntKind.i64 e.bucket.id, Value.int IntKind.i64 e.bucket.kind, Value.slice au0 e.bucket.items.length cu0, Value.slice au1 e.bucket.weights.length cu1] 160)) S _ e := hr0.heap (fun _ h => h) (fun k hk => Below.heap_alloc _ _ _ (Nat.lt_of_lt_of_le (hS k hk).1 SL.kept.size))
      generalize wr.alloc (Obj.cells #[Value.int IntKind.i64 e.kind, Value.int IntKind.i64 e.osd, Value.int IntKind.i64 e.value, Value.int IntKind.i64 e.pool.id, Value.int IntKind.i64 e.pool.size, Value.int IntKind.i64 e.pool.min, Value.int IntKind.i64 e.pool.pgs, Value.int IntKind.i64 e.bucket.id, Value.int IntKind.i64 e.bucket.kind, Value.slice au0 e.bucket.items.length cu0, Value.slice au1 e.bucket.weights.length cu1] 160) = wa at SA xa hrA ⊢
      refine (putChange_c (S := S) SA.own (fun k hk => ⟨Nat.lt_of_lt_of_le (hS k hk).1 SA.kept.size, fun hh => by rcases SA.new k hh with h' | h'; exact (hS k hk).2 h'; exact absurd (hS k hk).1 (by omega)⟩) e hrA (by have := SL.len; simp only [List.length_append, List.length_nil, encI_length, bB_length, leB_length] at this hm hfl; omega)).mono ?_
      rintro _ w9 ⟨v9, rfl, hG⟩
      obtain ⟨L9, g9, S9⟩ := SA.then hG
      have xl9 : w9.heap[w.heap.size]? = _ := (hG.old _ (lt_in xa) (fun hh => SA.own.ne xa (by decide) _ hh rfl)).trans xa
      obtain ⟨a9, c9, rfl, -, -⟩ := S9.own.shape
      have X9 := Lib.hid xl9
      have HS9 := Lib.hid (S9.cast (more' := ([] ++ encI x.epoch ++ leB 4 x.changes.length) ++ (x.changes.take (k + 1)).flatMap ChangeT.enc) (by rw [HFT.out, List.append_assoc]))
      clear xl9 S9 hG
      go_wp2
      exact ⟨⟨k + 1, L9, g9, by omega, by simp, HS9.out, X9.out⟩, by simp [intOf]; omega⟩
    · obtain rfl : k = x.changes.length := by omega
      have S3 : Out w wr _ out g (([] ++ encI x.epoch ++ leB 4 x.changes.length) ++ x.changes.flatMap ChangeT.enc) L gL := SL.cast (by rw [List.take_length])
      obtain ⟨a3, c3, rfl, -, -⟩ := S3.own.shape
      have x3 := xl
      rename World => w3
      clear SL xl
      go_wp2
      go_ret
      exact ⟨_, rfl, S3.done⟩

end Go.Proofs.YtanmfldgillodaaGreat
