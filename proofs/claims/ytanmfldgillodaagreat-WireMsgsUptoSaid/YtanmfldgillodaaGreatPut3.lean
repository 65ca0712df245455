/- Structs of the wire layer, and the contracts of the document's writers of them. -/
import Derived.Test.YtanmfldgillodaaGreatSr
set_option linter.unusedSimpArgs false
set_option linter.unusedVariables false
namespace Go.Proofs.YtanmfldgillodaaGreat
open Go.RowKit

structure NodeT where
  kind : Int
  id : Int

def NodeT.Is (w : World) (S : Nat → Prop) (cs : List Value) (x : NodeT) : Prop := cs = [Value.int IntKind.i64 x.kind, Value.int IntKind.i64 x.id] ∧ in64 x.kind ∧ in64 x.id
def NodeT.enc (x : NodeT) : List UInt8 := [] ++ encI x.kind ++ encI x.id
theorem NodeT.Is.heap {w w' : World} {S S' : Nat → Prop} {cs : List Value} {x : NodeT} (h : NodeT.Is w S cs x) : NodeT.Is w' S' cs x := h

set_option maxRecDepth 100000 in
set_option maxHeartbeats 1600000 in
theorem putNode_c {w : World} {v : Value} {out : List UInt8} {g : Option Nat} (h : Own w 5 1 v out.length (out.map bv) g) (x : NodeT) (hi : in64 x.kind ∧ in64 x.id) (hm : out.length + x.enc.length ≤ 90000000000000) :
    Calls Tryz.prog 82 #[v, .agg #[Value.int IntKind.i64 x.kind, Value.int IntKind.i64 x.id]] w fun e w' => ∃ v', e = .returned v' ∧ Grew w w' v' out g x.enc := by
  obtain ⟨i0, i1⟩ := hi
  simp only [NodeT.enc] at hm ⊢
  obtain ⟨a0, c0, rfl, -, -⟩ := h.shape
  go_enter Tryz.func82, Tryz.ntmps82
  go_wp2_with fail
  have x0 : (w.alloc (Obj.cells #[Value.int IntKind.i64 x.kind, Value.int IntKind.i64 x.id] 23)).heap[w.heap.size]? = some (Obj.cells #[Value.int IntKind.i64 x.kind, Value.int IntKind.i64 x.id] 23) := heap_alloc_new' _ _
  have S0 := (Out.start h).alloc (Obj.cells #[Value.int IntKind.i64 x.kind, Value.int IntKind.i64 x.id] 23)
  generalize w.alloc (Obj.cells #[Value.int IntKind.i64 x.kind, Value.int IntKind.i64 x.id] 23) = w0 at x0 S0 ⊢
  refine (int_c S0.own x.kind (by have := S0.len; simp only [List.length_append, List.length_nil, encI_length, bB_length, leB_length, encT_length, encBy_length] at this hm; omega)).mono ?_
  rintro e w1 ⟨v1, rfl, hG1⟩
  obtain ⟨L1, g1, S1⟩ := S0.then hG1
  obtain ⟨a1, c1, rfl, -, -⟩ := S1.own.shape
  have x1 : w1.heap[w.heap.size]? = some (Obj.cells #[Value.int IntKind.i64 x.kind, Value.int IntKind.i64 x.id] 23) := (hG1.old _ (lt_in x0) (fun hh => S0.own.ne x0 (by decide) _ hh rfl)).trans x0
  have z1 : w1.cell? ⟨w.heap.size, 1, none⟩ = some (Value.int IntKind.i64 x.id) := cell_in x1
  have lx := lt_in x1
  go_wp2_with fail
  clear z1 lx
  refine (int_c S1.own x.id (by have := S1.len; simp only [List.length_append, List.length_nil, encI_length, bB_length, leB_length, encT_length, encBy_length] at this hm; omega)).mono ?_
  rintro e w2 ⟨v2, rfl, hG2⟩
  obtain ⟨L2, g2, S2⟩ := S1.then hG2
  obtain ⟨a2, c2, rfl, -, -⟩ := S2.own.shape
  have x2 : w2.heap[w.heap.size]? = some (Obj.cells #[Value.int IntKind.i64 x.kind, Value.int IntKind.i64 x.id] 23) := (hG2.old _ (lt_in x1) (fun hh => S1.own.ne x1 (by decide) _ hh rfl)).trans x1
  go_wp2
  go_ret
  exact ⟨_, rfl, S2.done⟩

structure SlotT where
  slot : Int
  ballot : Int
  value : List UInt8

def SlotT.Is (w : World) (S : Nat → Prop) (cs : List Value) (x : SlotT) : Prop := ∃ v_value : Value, cs = [Value.int IntKind.i64 x.slot, Value.int IntKind.i64 x.ballot, v_value] ∧ in64 x.slot ∧ in64 x.ballot ∧ ListIs 1 byteIs w S v_value x.value
def SlotT.enc (x : SlotT) : List UInt8 := [] ++ encI x.slot ++ encI x.ballot ++ encBy x.value
theorem SlotT.Is.heap {w w' : World} {S S' : Nat → Prop} {cs : List Value} {x : SlotT} (h : SlotT.Is w S cs x) (hS : ∀ k, S k → S' k) (hk : ∀ k, S k → w'.heap[k]? = w.heap[k]?) : SlotT.Is w' S' cs x := by
  obtain ⟨v_value, rfl, i0, i1, l0⟩ := h
  exact ⟨v_value, rfl, i0, i1, l0.heap (fun _ _ h => byteIs_stable _ _ _ _ _ _ h hS hk) hS hk⟩

set_option maxRecDepth 100000 in
set_option maxHeartbeats 1600000 in
theorem putSlot_c {w : World} {v : Value} {out : List UInt8} {g : Option Nat} (h : Own w 5 1 v out.length (out.map bv) g) {S : Nat → Prop} (hS : ∀ k, S k → k < w.heap.size ∧ g ≠ some k) (x : SlotT) {cs : List Value} (hx : SlotT.Is w S cs x) (hm : out.length + x.enc.length ≤ 90000000000000) :
    Calls Tryz.prog 85 #[v, .agg cs.toArray] w fun e w' => ∃ v', e = .returned v' ∧ Grew w w' v' out g x.enc := by
  obtain ⟨v_value, rfl, i0, i1, l0⟩ := hx
  obtain ⟨a_v_value, c_v_value, rfl, -⟩ := l0.shape
  simp only [SlotT.enc] at hm ⊢
  obtain ⟨a0, c0, rfl, -, -⟩ := h.shape
  go_enter Tryz.func85, Tryz.ntmps85
  go_wp2_with fail
  have x0 : (w.alloc (Obj.cells #[Value.int IntKind.i64 x.slot, Value.int IntKind.i64 x.ballot, Value.slice a_v_value x.value.length c_v_value] 148)).heap[w.heap.size]? = some (Obj.cells #[Value.int IntKind.i64 x.slot, Value.int IntKind.i64 x.ballot, Value.slice a_v_value x.value.length c_v_value] 148) := heap_alloc_new' _ _
  have S0 := (Out.start h).alloc (Obj.cells #[Value.int IntKind.i64 x.slot, Value.int IntKind.i64 x.ballot, Value.slice a_v_value x.value.length c_v_value] 148)
  generalize w.alloc (Obj.cells #[Value.int IntKind.i64 x.slot, Value.int IntKind.i64 x.ballot, Value.slice a_v_value x.value.length c_v_value] 148) = w0 at x0 S0 ⊢
  refine (int_c S0.own x.slot (by have := S0.len; simp only [List.length_append, List.length_nil, encI_length, bB_length, leB_length, encT_length, encBy_length] at this hm; omega)).mono ?_
  rintro e w1 ⟨v1, rfl, hG1⟩
  obtain ⟨L1, g1, S1⟩ := S0.then hG1
  obtain ⟨a1, c1, rfl, -, -⟩ := S1.own.shape
  have x1 : w1.heap[w.heap.size]? = some (Obj.cells #[Value.int IntKind.i64 x.slot, Value.int IntKind.i64 x.ballot, Value.slice a_v_value x.value.length c_v_value] 148) := (hG1.old _ (lt_in x0) (fun hh => S0.own.ne x0 (by decide) _ hh rfl)).trans x0
  have z1 : w1.cell? ⟨w.heap.size, 1, none⟩ = some (Value.int IntKind.i64 x.ballot) := cell_in x1
  have lx := lt_in x1
  go_wp2_with fail
  clear z1 lx
  refine (int_c S1.own x.ballot (by have := S1.len; simp only [List.length_append, List.length_nil, encI_length, bB_length, leB_length, encT_length, encBy_length] at this hm; omega)).mono ?_
  rintro e w2 ⟨v2, rfl, hG2⟩
  obtain ⟨L2, g2, S2⟩ := S1.then hG2
  obtain ⟨a2, c2, rfl, -, -⟩ := S2.own.shape
  have x2 : w2.heap[w.heap.size]? = some (Obj.cells #[Value.int IntKind.i64 x.slot, Value.int IntKind.i64 x.ballot, Value.slice a_v_value x.value.length c_v_value] 148) := (hG2.old _ (lt_in x1) (fun hh => S1.own.ne x1 (by decide) _ hh rfl)).trans x1
  have z2 : w2.cell? ⟨w.heap.size, 2, none⟩ = some (Value.slice a_v_value x.value.length c_v_value) := cell_in x2
  have lx := lt_in x2
  go_wp2_with fail
  clear z2 lx
  have hd2 := S2.data hS
  obtain ⟨gb2, rb2, hb2⟩ := (l0.heap (fun _ _ h => byteIs_stable _ _ _ _ _ _ h (fun _ h => h) hd2) (fun _ h => h) hd2).reads
  refine (bytesRef_c S2.own rb2 (fun k hk hh => by have hk' := hS k (hb2 k hk); rcases S2.new k hh with h' | h'; exact hk'.2 h'; exact absurd hk'.1 (by omega)) (by have := S2.len; simp only [List.length_append, List.length_nil, encI_length, bB_length, leB_length, encT_length, encBy_length] at this hm; omega)).mono ?_
  rintro e w3 ⟨v3, rfl, hG3⟩
  obtain ⟨L3, g3, S3⟩ := S2.then hG3
  obtain ⟨a3, c3, rfl, -, -⟩ := S3.own.shape
  have x3 : w3.heap[w.heap.size]? = some (Obj.cells #[Value.int IntKind.i64 x.slot, Value.int IntKind.i64 x.ballot, Value.slice a_v_value x.value.length c_v_value] 148) := (hG3.old _ (lt_in x2) (fun hh => S2.own.ne x2 (by decide) _ hh rfl)).trans x2
  go_wp2
  go_ret
  exact ⟨_, rfl, S3.done⟩

structure ObjectT where
  name : ByteArray
  version : VersionT
  data : List UInt8

def ObjectT.Is (w : World) (S : Nat → Prop) (cs : List Value) (x : ObjectT) : Prop := ∃ v_data : Value, cs = [Value.string x.name, Value.int IntKind.i64 x.version.epoch, Value.int IntKind.i64 x.version.n, v_data] ∧ in64 x.version.epoch ∧ in64 x.version.n ∧ ListIs 1 byteIs w S v_data x.data
def ObjectT.enc (x : ObjectT) : List UInt8 := [] ++ encT x.name ++ x.version.enc ++ encBy x.data
theorem ObjectT.Is.heap {w w' : World} {S S' : Nat → Prop} {cs : List Value} {x : ObjectT} (h : ObjectT.Is w S cs x) (hS : ∀ k, S k → S' k) (hk : ∀ k, S k → w'.heap[k]? = w.heap[k]?) : ObjectT.Is w' S' cs x := by
  obtain ⟨v_data, rfl, i0, i1, l0⟩ := h
  exact ⟨v_data, rfl, i0, i1, l0.heap (fun _ _ h => byteIs_stable _ _ _ _ _ _ h hS hk) hS hk⟩

set_option maxRecDepth 100000 in
set_option maxHeartbeats 1600000 in
theorem putObject_c {w : World} {v : Value} {out : List UInt8} {g : Option Nat} (h : Own w 5 1 v out.length (out.map bv) g) {S : Nat → Prop} (hS : ∀ k, S k → k < w.heap.size ∧ g ≠ some k) (x : ObjectT) {cs : List Value} (hx : ObjectT.Is w S cs x) (hm : out.length + x.enc.length ≤ 90000000000000) :
    Calls Tryz.prog 89 #[v, .agg cs.toArray] w fun e w' => ∃ v', e = .returned v' ∧ Grew w w' v' out g x.enc := by
  obtain ⟨v_data, rfl, i0, i1, l0⟩ := hx
  obtain ⟨a_v_data, c_v_data, rfl, -⟩ := l0.shape
  simp only [ObjectT.enc] at hm ⊢
  obtain ⟨a0, c0, rfl, -, -⟩ := h.shape
  go_enter Tryz.func89, Tryz.ntmps89
  go_wp2_with fail
  have x0 : (w.alloc (Obj.cells #[Value.string x.name, Value.int IntKind.i64 x.version.epoch, Value.int IntKind.i64 x.version.n, Value.slice a_v_data x.data.length c_v_data] 43)).heap[w.heap.size]? = some (Obj.cells #[Value.string x.name, Value.int IntKind.i64 x.version.epoch, Value.int IntKind.i64 x.version.n, Value.slice a_v_data x.data.length c_v_data] 43) := heap_alloc_new' _ _
  have S0 := (Out.start h).alloc (Obj.cells #[Value.string x.name, Value.int IntKind.i64 x.version.epoch, Value.int IntKind.i64 x.version.n, Value.slice a_v_data x.data.length c_v_data] 43)
  generalize w.alloc (Obj.cells #[Value.string x.name, Value.int IntKind.i64 x.version.epoch, Value.int IntKind.i64 x.version.n, Value.slice a_v_data x.data.length c_v_data] 43) = w0 at x0 S0 ⊢
  have z0 : w0.cell? ⟨w.heap.size, 0, none⟩ = some (Value.string x.name) := cell_in x0
  have lx := lt_in x0
  have hcv0 := Go.Lib.run_convert_string_bytes (P := Tryz.prog) w0 9 41 5 x.name Tryz.underlying9 Tryz.underlying41 Tryz.underlying5
  have hKB0 := bytesWorld_kept (fun _ => False) w0 5 x.name
  have hRB0 := bytesWorld_reads w0 5 x.name (by unfold maxLen; simp only [List.length_append, List.length_nil, encI_length, bB_length, leB_length, encT_length, encBy_length] at hm; omega)
  generalize Go.Lib.bytesWorld w0 5 x.name = wb0 at hcv0 hKB0 hRB0
  obtain ⟨cap0, hcap0⟩ : ∃ cap, cap = grownCap w0 x.name.size 0 5 := ⟨_, rfl⟩
  rw [← hcap0] at hcv0 hRB0
  clear hcap0
  rw [hcv0]
  go_simp
  go_wp2_with fail
  have T0 : Out w wb0 _ out g _ _ _ := ⟨S0.own.kept hKB0 (fun _ _ h => h), S0.eq, S0.kept.trans (hKB0.mono (fun _ _ h => h.elim)), S0.new⟩
  have t0 := (hKB0.block _ (lt_in x0) (fun h => h)).trans x0
  have n0 : ∀ k, some w0.heap.size = some k → (g) ≠ some k := fun k hk hg => by
    cases hk
    exact absurd (S0.own.lt _ hg) (by omega)
  have len0 : x.name.data.toList.length = x.name.size := by simp
  have R0 : Reads wb0 1 _ x.name.data.toList.length _ _ := hRB0
  rw [len0] at hRB0
  clear hcv0
  clear z0 lx
  refine (bytesRef_c (bs := x.name.data.toList) T0.own (by rw [len0]; exact hRB0) n0 (by rw [len0]; have := S0.len; simp only [List.length_append, List.length_nil, encI_length, bB_length, leB_length, encT_length, encBy_length] at this hm; omega)).mono ?_
  rw [len0]
  rintro e w1 ⟨v1, rfl, hG1⟩
  obtain ⟨L1, g1, S1⟩ := T0.then hG1
  obtain ⟨a1, c1, rfl, -, -⟩ := S1.own.shape
  have x1 : w1.heap[w.heap.size]? = some (Obj.cells #[Value.string x.name, Value.int IntKind.i64 x.version.epoch, Value.int IntKind.i64 x.version.n, Value.slice a_v_data x.data.length c_v_data] 43) := (hG1.old _ (lt_in t0) (fun hh => T0.own.ne t0 (by decide) _ hh rfl)).trans t0
  have z1 : w1.cell? ⟨w.heap.size, 1, none⟩ = some (Value.int IntKind.i64 x.version.epoch) := cell_in x1
  have z2 : w1.cell? ⟨w.heap.size, 2, none⟩ = some (Value.int IntKind.i64 x.version.n) := cell_in x1
  have lx := lt_in x1
  go_wp2_with fail
  clear z1 z2 lx
  refine (putVersion_c S1.own x.version ⟨i0, i1⟩ (by have := S1.len; simp only [List.length_append, List.length_nil, encI_length, bB_length, leB_length, encT_length, encBy_length] at this hm; simp only [VersionT.enc, List.length_append, List.length_nil, encI_length, bB_length, leB_length, encT_length, encBy_length] at this hm ⊢; omega)).mono ?_
  rintro e w2 ⟨v2, rfl, hG2⟩
  obtain ⟨L2, g2, S2⟩ := S1.then hG2
  obtain ⟨a2, c2, rfl, -, -⟩ := S2.own.shape
  have x2 : w2.heap[w.heap.size]? = some (Obj.cells #[Value.string x.name, Value.int IntKind.i64 x.version.epoch, Value.int IntKind.i64 x.version.n, Value.slice a_v_data x.data.length c_v_data] 43) := (hG2.old _ (lt_in x1) (fun hh => S1.own.ne x1 (by decide) _ hh rfl)).trans x1
  have z3 : w2.cell? ⟨w.heap.size, 3, none⟩ = some (Value.slice a_v_data x.data.length c_v_data) := cell_in x2
  have lx := lt_in x2
  go_wp2_with fail
  clear z3 lx
  have hd2 := S2.data hS
  obtain ⟨gb2, rb2, hb2⟩ := (l0.heap (fun _ _ h => byteIs_stable _ _ _ _ _ _ h (fun _ h => h) hd2) (fun _ h => h) hd2).reads
  refine (bytesRef_c S2.own rb2 (fun k hk hh => by have hk' := hS k (hb2 k hk); rcases S2.new k hh with h' | h'; exact hk'.2 h'; exact absurd hk'.1 (by omega)) (by have := S2.len; simp only [List.length_append, List.length_nil, encI_length, bB_length, leB_length, encT_length, encBy_length] at this hm; omega)).mono ?_
  rintro e w3 ⟨v3, rfl, hG3⟩
  obtain ⟨L3, g3, S3⟩ := S2.then hG3
  obtain ⟨a3, c3, rfl, -, -⟩ := S3.own.shape
  have x3 : w3.heap[w.heap.size]? = some (Obj.cells #[Value.string x.name, Value.int IntKind.i64 x.version.epoch, Value.int IntKind.i64 x.version.n, Value.slice a_v_data x.data.length c_v_data] 43) := (hG3.old _ (lt_in x2) (fun hh => S2.own.ne x2 (by decide) _ hh rfl)).trans x2
  go_wp2
  go_ret
  exact ⟨_, rfl, S3.done⟩

structure InfoT where
  les : Int
  head : VersionT
  tail : VersionT
  born : Int

def InfoT.Is (w : World) (S : Nat → Prop) (cs : List Value) (x : InfoT) : Prop := cs = [Value.int IntKind.i64 x.les, Value.int IntKind.i64 x.head.epoch, Value.int IntKind.i64 x.head.n, Value.int IntKind.i64 x.tail.epoch, Value.int IntKind.i64 x.tail.n, Value.int IntKind.i64 x.born] ∧ in64 x.les ∧ in64 x.head.epoch ∧ in64 x.head.n ∧ in64 x.tail.epoch ∧ in64 x.tail.n ∧ in64 x.born
def InfoT.enc (x : InfoT) : List UInt8 := [] ++ encI x.les ++ x.head.enc ++ x.tail.enc ++ encI x.born
theorem InfoT.Is.heap {w w' : World} {S S' : Nat → Prop} {cs : List Value} {x : InfoT} (h : InfoT.Is w S cs x) : InfoT.Is w' S' cs x := h

set_option maxRecDepth 100000 in
set_option maxHeartbeats 1600000 in
theorem putInfo_c {w : World} {v : Value} {out : List UInt8} {g : Option Nat} (h : Own w 5 1 v out.length (out.map bv) g) (x : InfoT) (hi : in64 x.les ∧ in64 x.head.epoch ∧ in64 x.head.n ∧ in64 x.tail.epoch ∧ in64 x.tail.n ∧ in64 x.born) (hm : out.length + x.enc.length ≤ 90000000000000) :
    Calls Tryz.prog 87 #[v, .agg #[Value.int IntKind.i64 x.les, Value.int IntKind.i64 x.head.epoch, Value.int IntKind.i64 x.head.n, Value.int IntKind.i64 x.tail.epoch, Value.int IntKind.i64 x.tail.n, Value.int IntKind.i64 x.born]] w fun e w' => ∃ v', e = .returned v' ∧ Grew w w' v' out g x.enc := by
  obtain ⟨i0, i1, i2, i3, i4, i5⟩ := hi
  simp only [InfoT.enc] at hm ⊢
  obtain ⟨a0, c0, rfl, -, -⟩ := h.shape
  go_enter Tryz.func87, Tryz.ntmps87
  go_wp2_with fail
  have x0 : (w.alloc (Obj.cells #[Value.int IntKind.i64 x.les, Value.int IntKind.i64 x.head.epoch, Value.int IntKind.i64 x.head.n, Value.int IntKind.i64 x.tail.epoch, Value.int IntKind.i64 x.tail.n, Value.int IntKind.i64 x.born] 32)).heap[w.heap.size]? = some (Obj.cells #[Value.int IntKind.i64 x.les, Value.int IntKind.i64 x.head.epoch, Value.int IntKind.i64 x.head.n, Value.int IntKind.i64 x.tail.epoch, Value.int IntKind.i64 x.tail.n, Value.int IntKind.i64 x.born] 32) := heap_alloc_new' _ _
  have S0 := (Out.start h).alloc (Obj.cells #[Value.int IntKind.i64 x.les, Value.int IntKind.i64 x.head.epoch, Value.int IntKind.i64 x.head.n, Value.int IntKind.i64 x.tail.epoch, Value.int IntKind.i64 x.tail.n, Value.int IntKind.i64 x.born] 32)
  generalize w.alloc (Obj.cells #[Value.int IntKind.i64 x.les, Value.int IntKind.i64 x.head.epoch, Value.int IntKind.i64 x.head.n, Value.int IntKind.i64 x.tail.epoch, Value.int IntKind.i64 x.tail.n, Value.int IntKind.i64 x.born] 32) = w0 at x0 S0 ⊢
  refine (int_c S0.own x.les (by have := S0.len; simp only [List.length_append, List.length_nil, encI_length, bB_length, leB_length, encT_length, encBy_length] at this hm; omega)).mono ?_
  rintro e w1 ⟨v1, rfl, hG1⟩
  obtain ⟨L1, g1, S1⟩ := S0.then hG1
  obtain ⟨a1, c1, rfl, -, -⟩ := S1.own.shape
  have x1 : w1.heap[w.heap.size]? = some (Obj.cells #[Value.int IntKind.i64 x.les, Value.int IntKind.i64 x.head.epoch, Value.int IntKind.i64 x.head.n, Value.int IntKind.i64 x.tail.epoch, Value.int IntKind.i64 x.tail.n, Value.int IntKind.i64 x.born] 32) := (hG1.old _ (lt_in x0) (fun hh => S0.own.ne x0 (by decide) _ hh rfl)).trans x0
  have z1 : w1.cell? ⟨w.heap.size, 1, none⟩ = some (Value.int IntKind.i64 x.head.epoch) := cell_in x1
  have z2 : w1.cell? ⟨w.heap.size, 2, none⟩ = some (Value.int IntKind.i64 x.head.n) := cell_in x1
  have lx := lt_in x1
  go_wp2_with fail
  clear z1 z2 lx
  refine (putVersion_c S1.own x.head ⟨i1, i2⟩ (by have := S1.len; simp only [List.length_append, List.length_nil, encI_length, bB_length, leB_length, encT_length, encBy_length] at this hm; simp only [VersionT.enc, List.length_append, List.length_nil, encI_length, bB_length, leB_length, encT_length, encBy_length] at this hm ⊢; omega)).mono ?_
  rintro e w2 ⟨v2, rfl, hG2⟩
  obtain ⟨L2, g2, S2⟩ := S1.then hG2
  obtain ⟨a2, c2, rfl, -, -⟩ := S2.own.shape
  have x2 : w2.heap[w.heap.size]? = some (Obj.cells #[Value.int IntKind.i64 x.les, Value.int IntKind.i64 x.head.epoch, Value.int IntKind.i64 x.head.n, Value.int IntKind.i64 x.tail.epoch, Value.int IntKind.i64 x.tail.n, Value.int IntKind.i64 x.born] 32) := (hG2.old _ (lt_in x1) (fun hh => S1.own.ne x1 (by decide) _ hh rfl)).trans x1
  have z3 : w2.cell? ⟨w.heap.size, 3, none⟩ = some (Value.int IntKind.i64 x.tail.epoch) := cell_in x2
  have z4 : w2.cell? ⟨w.heap.size, 4, none⟩ = some (Value.int IntKind.i64 x.tail.n) := cell_in x2
  have lx := lt_in x2
  go_wp2_with fail
  clear z3 z4 lx
  refine (putVersion_c S2.own x.tail ⟨i3, i4⟩ (by have := S2.len; simp only [List.length_append, List.length_nil, encI_length, bB_length, leB_length, encT_length, encBy_length] at this hm; simp only [VersionT.enc, List.length_append, List.length_nil, encI_length, bB_length, leB_length, encT_length, encBy_length] at this hm ⊢; omega)).mono ?_
  rintro e w3 ⟨v3, rfl, hG3⟩
  obtain ⟨L3, g3, S3⟩ := S2.then hG3
  obtain ⟨a3, c3, rfl, -, -⟩ := S3.own.shape
  have x3 : w3.heap[w.heap.size]? = some (Obj.cells #[Value.int IntKind.i64 x.les, Value.int IntKind.i64 x.head.epoch, Value.int IntKind.i64 x.head.n, Value.int IntKind.i64 x.tail.epoch, Value.int IntKind.i64 x.tail.n, Value.int IntKind.i64 x.born] 32) := (hG3.old _ (lt_in x2) (fun hh => S2.own.ne x2 (by decide) _ hh rfl)).trans x2
  have z5 : w3.cell? ⟨w.heap.size, 5, none⟩ = some (Value.int IntKind.i64 x.born) := cell_in x3
  have lx := lt_in x3
  go_wp2_with fail
  clear z5 lx
  refine (int_c S3.own x.born (by have := S3.len; simp only [List.length_append, List.length_nil, encI_length, bB_length, leB_length, encT_length, encBy_length] at this hm; omega)).mono ?_
  rintro e w4 ⟨v4, rfl, hG4⟩
  obtain ⟨L4, g4, S4⟩ := S3.then hG4
  obtain ⟨a4, c4, rfl, -, -⟩ := S4.own.shape
  have x4 : w4.heap[w.heap.size]? = some (Obj.cells #[Value.int IntKind.i64 x.les, Value.int IntKind.i64 x.head.epoch, Value.int IntKind.i64 x.head.n, Value.int IntKind.i64 x.tail.epoch, Value.int IntKind.i64 x.tail.n, Value.int IntKind.i64 x.born] 32) := (hG4.old _ (lt_in x3) (fun hh => S3.own.ne x3 (by decide) _ hh rfl)).trans x3
  go_wp2
  go_ret
  exact ⟨_, rfl, S4.done⟩

structure OpT where
  kind : Int
  name : ByteArray
  data : List UInt8
  expect : VersionT

def OpT.Is (w : World) (S : Nat → Prop) (cs : List Value) (x : OpT) : Prop := ∃ v_data : Value, cs = [Value.int IntKind.i64 x.kind, Value.string x.name, v_data, Value.int IntKind.i64 x.expect.epoch, Value.int IntKind.i64 x.expect.n] ∧ in64 x.kind ∧ in64 x.expect.epoch ∧ in64 x.expect.n ∧ ListIs 1 byteIs w S v_data x.data
def OpT.enc (x : OpT) : List UInt8 := [] ++ encI x.kind ++ encT x.name ++ encBy x.data ++ x.expect.enc
theorem OpT.Is.heap {w w' : World} {S S' : Nat → Prop} {cs : List Value} {x : OpT} (h : OpT.Is w S cs x) (hS : ∀ k, S k → S' k) (hk : ∀ k, S k → w'.heap[k]? = w.heap[k]?) : OpT.Is w' S' cs x := by
  obtain ⟨v_data, rfl, i0, i1, i2, l0⟩ := h
  exact ⟨v_data, rfl, i0, i1, i2, l0.heap (fun _ _ h => byteIs_stable _ _ _ _ _ _ h hS hk) hS hk⟩

set_option maxRecDepth 100000 in
set_option maxHeartbeats 1600000 in
theorem putOp_c {w : World} {v : Value} {out : List UInt8} {g : Option Nat} (h : Own w 5 1 v out.length (out.map bv) g) {S : Nat → Prop} (hS : ∀ k, S k → k < w.heap.size ∧ g ≠ some k) (x : OpT) {cs : List Value} (hx : OpT.Is w S cs x) (hm : out.length + x.enc.length ≤ 90000000000000) :
    Calls Tryz.prog 90 #[v, .agg cs.toArray] w fun e w' => ∃ v', e = .returned v' ∧ Grew w w' v' out g x.enc := by
  obtain ⟨v_data, rfl, i0, i1, i2, l0⟩ := hx
  obtain ⟨a_v_data, c_v_data, rfl, -⟩ := l0.shape
  simp only [OpT.enc] at hm ⊢
  obtain ⟨a0, c0, rfl, -, -⟩ := h.shape
  go_enter Tryz.func90, Tryz.ntmps90
  go_wp2_with fail
  have x0 : (w.alloc (Obj.cells #[Value.int IntKind.i64 x.kind, Value.string x.name, Value.slice a_v_data x.data.length c_v_data, Value.int IntKind.i64 x.expect.epoch, Value.int IntKind.i64 x.expect.n] 45)).heap[w.heap.size]? = some (Obj.cells #[Value.int IntKind.i64 x.kind, Value.string x.name, Value.slice a_v_data x.data.length c_v_data, Value.int IntKind.i64 x.expect.epoch, Value.int IntKind.i64 x.expect.n] 45) := heap_alloc_new' _ _
  have S0 := (Out.start h).alloc (Obj.cells #[Value.int IntKind.i64 x.kind, Value.string x.name, Value.slice a_v_data x.data.length c_v_data, Value.int IntKind.i64 x.expect.epoch, Value.int IntKind.i64 x.expect.n] 45)
  generalize w.alloc (Obj.cells #[Value.int IntKind.i64 x.kind, Value.string x.name, Value.slice a_v_data x.data.length c_v_data, Value.int IntKind.i64 x.expect.epoch, Value.int IntKind.i64 x.expect.n] 45) = w0 at x0 S0 ⊢
  refine (int_c S0.own x.kind (by have := S0.len; simp only [List.length_append, List.length_nil, encI_length, bB_length, leB_length, encT_length, encBy_length] at this hm; omega)).mono ?_
  rintro e w1 ⟨v1, rfl, hG1⟩
  obtain ⟨L1, g1, S1⟩ := S0.then hG1
  obtain ⟨a1, c1, rfl, -, -⟩ := S1.own.shape
  have x1 : w1.heap[w.heap.size]? = some (Obj.cells #[Value.int IntKind.i64 x.kind, Value.string x.name, Value.slice a_v_data x.data.length c_v_data, Value.int IntKind.i64 x.expect.epoch, Value.int IntKind.i64 x.expect.n] 45) := (hG1.old _ (lt_in x0) (fun hh => S0.own.ne x0 (by decide) _ hh rfl)).trans x0
  have z1 : w1.cell? ⟨w.heap.size, 1, none⟩ = some (Value.string x.name) := cell_in x1
  have lx := lt_in x1
  have hcv1 := Go.Lib.run_convert_string_bytes (P := Tryz.prog) w1 9 41 5 x.name Tryz.underlying9 Tryz.underlying41 Tryz.underlying5
  have hKB1 := bytesWorld_kept (fun _ => False) w1 5 x.name
  have hRB1 := bytesWorld_reads w1 5 x.name (by unfold maxLen; simp only [List.length_append, List.length_nil, encI_length, bB_length, leB_length, encT_length, encBy_length] at hm; omega)
  generalize Go.Lib.bytesWorld w1 5 x.name = wb1 at hcv1 hKB1 hRB1
  obtain ⟨cap1, hcap1⟩ : ∃ cap, cap = grownCap w1 x.name.size 0 5 := ⟨_, rfl⟩
  rw [← hcap1] at hcv1 hRB1
  clear hcap1

  go_wp2_with fail
  have T1 : Out w wb1 _ out g _ _ _ := ⟨S1.own.kept hKB1 (fun _ _ h => h), S1.eq, S1.kept.trans (hKB1.mono (fun _ _ h => h.elim)), S1.new⟩
  have t1 := (hKB1.block _ (lt_in x1) (fun h => h)).trans x1
  have n1 : ∀ k, some w1.heap.size = some k → (g1) ≠ some k := fun k hk hg => by
    cases hk
    exact absurd (S1.own.lt _ hg) (by omega)
  have len1 : x.name.data.toList.length = x.name.size := by simp
  have R1 : Reads wb1 1 _ x.name.data.toList.length _ _ := hRB1
  rw [len1] at hRB1
  clear hcv1
  clear z1 lx
  refine (bytesRef_c (bs := x.name.data.toList) T1.own (by rw [len1]; exact hRB1) n1 (by rw [len1]; have := S1.len; simp only [List.length_append, List.length_nil, encI_length, bB_length, leB_length, encT_length, encBy_length] at this hm; omega)).mono ?_
  rw [len1]
  rintro e w2 ⟨v2, rfl, hG2⟩
  obtain ⟨L2, g2, S2⟩ := T1.then hG2
  obtain ⟨a2, c2, rfl, -, -⟩ := S2.own.shape
  have x2 : w2.heap[w.heap.size]? = some (Obj.cells #[Value.int IntKind.i64 x.kind, Value.string x.name, Value.slice a_v_data x.data.length c_v_data, Value.int IntKind.i64 x.expect.epoch, Value.int IntKind.i64 x.expect.n] 45) := (hG2.old _ (lt_in t1) (fun hh => T1.own.ne t1 (by decide) _ hh rfl)).trans t1
  have z2 : w2.cell? ⟨w.heap.size, 2, none⟩ = some (Value.slice a_v_data x.data.length c_v_data) := cell_in x2
  have lx := lt_in x2
  go_wp2_with fail
  clear z2 lx
  have hd2 := S2.data hS
  obtain ⟨gb2, rb2, hb2⟩ := (l0.heap (fun _ _ h => byteIs_stable _ _ _ _ _ _ h (fun _ h => h) hd2) (fun _ h => h) hd2).reads
  refine (bytesRef_c S2.own rb2 (fun k hk hh => by have hk' := hS k (hb2 k hk); rcases S2.new k hh with h' | h'; exact hk'.2 h'; exact absurd hk'.1 (by omega)) (by have := S2.len; simp only [List.length_append, List.length_nil, encI_length, bB_length, leB_length, encT_length, encBy_length] at this hm; omega)).mono ?_
  rintro e w3 ⟨v3, rfl, hG3⟩
  obtain ⟨L3, g3, S3⟩ := S2.then hG3
  obtain ⟨a3, c3, rfl, -, -⟩ := S3.own.shape
  have x3 : w3.heap[w.heap.size]? = some (Obj.cells #[Value.int IntKind.i64 x.kind, Value.string x.name, Value.slice a_v_data x.data.length c_v_data, Value.int IntKind.i64 x.expect.epoch, Value.int IntKind.i64 x.expect.n] 45) := (hG3.old _ (lt_in x2) (fun hh => S2.own.ne x2 (by decide) _ hh rfl)).trans x2
  have z3 : w3.cell? ⟨w.heap.size, 3, none⟩ = some (Value.int IntKind.i64 x.expect.epoch) := cell_in x3
  have z4 : w3.cell? ⟨w.heap.size, 4, none⟩ = some (Value.int IntKind.i64 x.expect.n) := cell_in x3
  have lx := lt_in x3
  go_wp2_with fail
  clear z3 z4 lx
  refine (putVersion_c S3.own x.expect ⟨i1, i2⟩ (by have := S3.len; simp only [List.length_append, List.length_nil, encI_length, bB_length, leB_length, encT_length, encBy_length] at this hm; simp only [VersionT.enc, List.length_append, List.length_nil, encI_length, bB_length, leB_length, encT_length, encBy_length] at this hm ⊢; omega)).mono ?_
  rintro e w4 ⟨v4, rfl, hG4⟩
  obtain ⟨L4, g4, S4⟩ := S3.then hG4
  obtain ⟨a4, c4, rfl, -, -⟩ := S4.own.shape
  have x4 : w4.heap[w.heap.size]? = some (Obj.cells #[Value.int IntKind.i64 x.kind, Value.string x.name, Value.slice a_v_data x.data.length c_v_data, Value.int IntKind.i64 x.expect.epoch, Value.int IntKind.i64 x.expect.n] 45) := (hG4.old _ (lt_in x3) (fun hh => S3.own.ne x3 (by decide) _ hh rfl)).trans x3
  go_wp2
  go_ret
  exact ⟨_, rfl, S4.done⟩

structure MsgT where
  kind : Int
  src : NodeT
  dst : NodeT
  boot : Int
  epoch : Int
  pg : PgT
  client : Int
  number : Int
  ballot : Int
  slots : List SlotT
  incs : List IncT
  changes : List ChangeT
  info : InfoT
  state : StateT
  entry : EntryT
  object : ObjectT
  op : OpT
  items : List ItemT
  names : List ByteArray
  errno : Int

def MsgT.Is (w : World) (S : Nat → Prop) (cs : List Value) (x : MsgT) : Prop := ∃ v_slots v_incs v_changes v_state_log v_state_lasts v_state_items v_object_data v_op_data v_items v_names : Value, cs = [Value.int IntKind.i64 x.kind, Value.int IntKind.i64 x.src.kind, Value.int IntKind.i64 x.src.id, Value.int IntKind.i64 x.dst.kind, Value.int IntKind.i64 x.dst.id, Value.int IntKind.i64 x.boot, Value.int IntKind.i64 x.epoch, Value.int IntKind.i64 x.pg.pool, Value.int IntKind.i64 x.pg.seed, Value.int IntKind.i64 x.client, Value.int IntKind.i64 x.number, Value.int IntKind.i64 x.ballot, v_slots, v_incs, v_changes, Value.int IntKind.i64 x.info.les, Value.int IntKind.i64 x.info.head.epoch, Value.int IntKind.i64 x.info.head.n, Value.int IntKind.i64 x.info.tail.epoch, Value.int IntKind.i64 x.info.tail.n, Value.int IntKind.i64 x.info.born, Value.int IntKind.i64 x.state.les, Value.int IntKind.i64 x.state.tail.epoch, Value.int IntKind.i64 x.state.tail.n, v_state_log, v_state_lasts, v_state_items, Value.int IntKind.i64 x.entry.version.epoch, Value.int IntKind.i64 x.entry.version.n, Value.bool x.entry.remove, Value.int IntKind.i64 x.entry.errno, Value.string x.entry.name, Value.int IntKind.i64 x.entry.client, Value.int IntKind.i64 x.entry.number, Value.string x.object.name, Value.int IntKind.i64 x.object.version.epoch, Value.int IntKind.i64 x.object.version.n, v_object_data, Value.int IntKind.i64 x.op.kind, Value.string x.op.name, v_op_data, Value.int IntKind.i64 x.op.expect.epoch, Value.int IntKind.i64 x.op.expect.n, v_items, v_names, Value.int IntKind.i64 x.errno] ∧ in64 x.kind ∧ in64 x.src.kind ∧ in64 x.src.id ∧ in64 x.dst.kind ∧ in64 x.dst.id ∧ in64 x.boot ∧ in64 x.epoch ∧ in64 x.pg.pool ∧ in64 x.pg.seed ∧ in64 x.client ∧ in64 x.number ∧ in64 x.ballot ∧ in64 x.info.les ∧ in64 x.info.head.epoch ∧ in64 x.info.head.n ∧ in64 x.info.tail.epoch ∧ in64 x.info.tail.n ∧ in64 x.info.born ∧ in64 x.state.les ∧ in64 x.state.tail.epoch ∧ in64 x.state.tail.n ∧ in64 x.entry.version.epoch ∧ in64 x.entry.version.n ∧ in64 x.entry.errno ∧ in64 x.entry.client ∧ in64 x.entry.number ∧ in64 x.object.version.epoch ∧ in64 x.object.version.n ∧ in64 x.op.kind ∧ in64 x.op.expect.epoch ∧ in64 x.op.expect.n ∧ in64 x.errno ∧ ListIs 3 SlotT.Is w S v_slots x.slots ∧ ListIs 2 IncT.Is w S v_incs x.incs ∧ ListIs 11 ChangeT.Is w S v_changes x.changes ∧ ListIs 7 EntryT.Is w S v_state_log x.state.log ∧ ListIs 5 LastT.Is w S v_state_lasts x.state.lasts ∧ ListIs 4 ItemT.Is w S v_state_items x.state.items ∧ ListIs 1 byteIs w S v_object_data x.object.data ∧ ListIs 1 byteIs w S v_op_data x.op.data ∧ ListIs 4 ItemT.Is w S v_items x.items ∧ ListIs 1 textIs w S v_names x.names
def MsgT.enc (x : MsgT) : List UInt8 := [] ++ encI x.kind ++ x.src.enc ++ x.dst.enc ++ encI x.boot ++ encI x.epoch ++ x.pg.enc ++ encI x.client ++ encI x.number ++ encI x.ballot ++ leB 4 x.slots.length ++ x.slots.flatMap SlotT.enc ++ leB 4 x.incs.length ++ x.incs.flatMap IncT.enc ++ leB 4 x.changes.length ++ x.changes.flatMap ChangeT.enc ++ x.info.enc ++ x.state.enc ++ x.entry.enc ++ x.object.enc ++ x.op.enc ++ leB 4 x.items.length ++ x.items.flatMap ItemT.enc ++ leB 4 x.names.length ++ x.names.flatMap encT ++ encI x.errno
theorem MsgT.Is.heap {w w' : World} {S S' : Nat → Prop} {cs : List Value} {x : MsgT} (h : MsgT.Is w S cs x) (hS : ∀ k, S k → S' k) (hk : ∀ k, S k → w'.heap[k]? = w.heap[k]?) : MsgT.Is w' S' cs x := by
  obtain ⟨v_slots, v_incs, v_changes, v_state_log, v_state_lasts, v_state_items, v_object_data, v_op_data, v_items, v_names, rfl, i0, i1, i2, i3, i4, i5, i6, i7, i8, i9, i10, i11, i12, i13, i14, i15, i16, i17, i18, i19, i20, i21, i22, i23, i24, i25, i26, i27, i28, i29, i30, i31, l0, l1, l2, l3, l4, l5, l6, l7, l8, l9⟩ := h
  exact ⟨v_slots, v_incs, v_changes, v_state_log, v_state_lasts, v_state_items, v_object_data, v_op_data, v_items, v_names, rfl, i0, i1, i2, i3, i4, i5, i6, i7, i8, i9, i10, i11, i12, i13, i14, i15, i16, i17, i18, i19, i20, i21, i22, i23, i24, i25, i26, i27, i28, i29, i30, i31, l0.heap (fun _ _ h => SlotT.Is.heap h hS hk) hS hk, l1.heap (fun _ _ h => IncT.Is.heap h hS hk) hS hk, l2.heap (fun _ _ h => ChangeT.Is.heap h hS hk) hS hk, l3.heap (fun _ _ h => EntryT.Is.heap h) hS hk, l4.heap (fun _ _ h => LastT.Is.heap h) hS hk, l5.heap (fun _ _ h => ItemT.Is.heap h) hS hk, l6.heap (fun _ _ h => byteIs_stable _ _ _ _ _ _ h hS hk) hS hk, l7.heap (fun _ _ h => byteIs_stable _ _ _ _ _ _ h hS hk) hS hk, l8.heap (fun _ _ h => ItemT.Is.heap h) hS hk, l9.heap (fun _ _ h => textIs_stable _ _ _ _ _ _ h hS hk) hS hk⟩

set_option maxRecDepth 100000 in
set_option maxHeartbeats 1600000 in
theorem putMsg_c {w : World} {v : Value} {out : List UInt8} {g : Option Nat} (h : Own w 5 1 v out.length (out.map bv) g) {S : Nat → Prop} (hS : ∀ k, S k → k < w.heap.size ∧ g ≠ some k) (x : MsgT) {cs : List Value} (hx : MsgT.Is w S cs x) (hm : out.length + x.enc.length ≤ 90000000000000) :
    Calls Tryz.prog 34 #[v, .agg cs.toArray] w fun e w' => ∃ v', e = .returned v' ∧ Grew w w' v' out g x.enc := by
  obtain ⟨v_slots, v_incs, v_changes, v_state_log, v_state_lasts, v_state_items, v_object_data, v_op_data, v_items, v_names, rfl, i0, i1, i2, i3, i4, i5, i6, i7, i8, i9, i10, i11, i12, i13, i14, i15, i16, i17, i18, i19, i20, i21, i22, i23, i24, i25, i26, i27, i28, i29, i30, i31, l0, l1, l2, l3, l4, l5, l6, l7, l8, l9⟩ := hx
  have sh0 := l0.shape
  have sh1 := l1.shape
  have sh2 := l2.shape
  have sh3 := l3.shape
  have sh4 := l4.shape
  have sh5 := l5.shape
  have sh6 := l6.shape
  have sh7 := l7.shape
  have sh8 := l8.shape
  have sh9 := l9.shape
  obtain ⟨a_v_slots, c_v_slots, eh0, qh0⟩ := sh0
  clear qh0
  obtain ⟨a_v_incs, c_v_incs, eh1, qh1⟩ := sh1
  clear qh1
  obtain ⟨a_v_changes, c_v_changes, eh2, qh2⟩ := sh2
  clear qh2
  obtain ⟨a_v_state_log, c_v_state_log, eh3, qh3⟩ := sh3
  clear qh3
  obtain ⟨a_v_state_lasts, c_v_state_lasts, eh4, qh4⟩ := sh4
  clear qh4
  obtain ⟨a_v_state_items, c_v_state_items, eh5, qh5⟩ := sh5
  clear qh5
  obtain ⟨a_v_object_data, c_v_object_data, eh6, qh6⟩ := sh6
  clear qh6
  obtain ⟨a_v_op_data, c_v_op_data, eh7, qh7⟩ := sh7
  clear qh7
  obtain ⟨a_v_items, c_v_items, eh8, qh8⟩ := sh8
  clear qh8
  obtain ⟨a_v_names, c_v_names, eh9, qh9⟩ := sh9
  clear qh9
  subst eh0 eh1 eh2 eh3 eh4 eh5 eh6 eh7 eh8 eh9
  unfold MsgT.enc at hm ⊢
  obtain ⟨a0, c0, rfl, -, -⟩ := h.shape
  go_enter Tryz.func34, Tryz.ntmps34
  go_wp2_with fail
  have x0 : (w.alloc (Obj.cells #[Value.int IntKind.i64 x.kind, Value.int IntKind.i64 x.src.kind, Value.int IntKind.i64 x.src.id, Value.int IntKind.i64 x.dst.kind, Value.int IntKind.i64 x.dst.id, Value.int IntKind.i64 x.boot, Value.int IntKind.i64 x.epoch, Value.int IntKind.i64 x.pg.pool, Value.int IntKind.i64 x.pg.seed, Value.int IntKind.i64 x.client, Value.int IntKind.i64 x.number, Value.int IntKind.i64 x.ballot, Value.slice a_v_slots x.slots.length c_v_slots, Value.slice a_v_incs x.incs.length c_v_incs, Value.slice a_v_changes x.changes.length c_v_changes, Value.int IntKind.i64 x.info.les, Value.int IntKind.i64 x.info.head.epoch, Value.int IntKind.i64 x.info.head.n, Value.int IntKind.i64 x.info.tail.epoch, Value.int IntKind.i64 x.info.tail.n, Value.int IntKind.i64 x.info.born, Value.int IntKind.i64 x.state.les, Value.int IntKind.i64 x.state.tail.epoch, Value.int IntKind.i64 x.state.tail.n, Value.slice a_v_state_log x.state.log.length c_v_state_log, Value.slice a_v_state_lasts x.state.lasts.length c_v_state_lasts, Value.slice a_v_state_items x.state.items.length c_v_state_items, Value.int IntKind.i64 x.entry.version.epoch, Value.int IntKind.i64 x.entry.version.n, Value.bool x.entry.remove, Value.int IntKind.i64 x.entry.errno, Value.string x.entry.name, Value.int IntKind.i64 x.entry.client, Value.int IntKind.i64 x.entry.number, Value.string x.object.name, Value.int IntKind.i64 x.object.version.epoch, Value.int IntKind.i64 x.object.version.n, Value.slice a_v_object_data x.object.data.length c_v_object_data, Value.int IntKind.i64 x.op.kind, Value.string x.op.name, Value.slice a_v_op_data x.op.data.length c_v_op_data, Value.int IntKind.i64 x.op.expect.epoch, Value.int IntKind.i64 x.op.expect.n, Value.slice a_v_items x.items.length c_v_items, Value.slice a_v_names x.names.length c_v_names, Value.int IntKind.i64 x.errno] 48)).heap[w.heap.size]? = some (Obj.cells #[Value.int IntKind.i64 x.kind, Value.int IntKind.i64 x.src.kind, Value.int IntKind.i64 x.src.id, Value.int IntKind.i64 x.dst.kind, Value.int IntKind.i64 x.dst.id, Value.int IntKind.i64 x.boot, Value.int IntKind.i64 x.epoch, Value.int IntKind.i64 x.pg.pool, Value.int IntKind.i64 x.pg.seed, Value.int IntKind.i64 x.client, Value.int IntKind.i64 x.number, Value.int IntKind.i64 x.ballot, Value.slice a_v_slots x.slots.length c_v_slots, Value.slice a_v_incs x.incs.length c_v_incs, Value.slice a_v_changes x.changes.length c_v_changes, Value.int IntKind.i64 x.info.les, Value.int IntKind.i64 x.info.head.epoch, Value.int IntKind.i64 x.info.head.n, Value.int IntKind.i64 x.info.tail.epoch, Value.int IntKind.i64 x.info.tail.n, Value.int IntKind.i64 x.info.born, Value.int IntKind.i64 x.state.les, Value.int IntKind.i64 x.state.tail.epoch, Value.int IntKind.i64 x.state.tail.n, Value.slice a_v_state_log x.state.log.length c_v_state_log, Value.slice a_v_state_lasts x.state.lasts.length c_v_state_lasts, Value.slice a_v_state_items x.state.items.length c_v_state_items, Value.int IntKind.i64 x.entry.version.epoch, Value.int IntKind.i64 x.entry.version.n, Value.bool x.entry.remove, Value.int IntKind.i64 x.entry.errno, Value.string x.entry.name, Value.int IntKind.i64 x.entry.client, Value.int IntKind.i64 x.entry.number, Value.string x.object.name, Value.int IntKind.i64 x.object.version.epoch, Value.int IntKind.i64 x.object.version.n, Value.slice a_v_object_data x.object.data.length c_v_object_data, Value.int IntKind.i64 x.op.kind, Value.string x.op.name, Value.slice a_v_op_data x.op.data.length c_v_op_data, Value.int IntKind.i64 x.op.expect.epoch, Value.int IntKind.i64 x.op.expect.n, Value.slice a_v_items x.items.length c_v_items, Value.slice a_v_names x.names.length c_v_names, Value.int IntKind.i64 x.errno] 48) := heap_alloc_new' _ _
  have S0 := (Out.start h).alloc (Obj.cells #[Value.int IntKind.i64 x.kind, Value.int IntKind.i64 x.src.kind, Value.int IntKind.i64 x.src.id, Value.int IntKind.i64 x.dst.kind, Value.int IntKind.i64 x.dst.id, Value.int IntKind.i64 x.boot, Value.int IntKind.i64 x.epoch, Value.int IntKind.i64 x.pg.pool, Value.int IntKind.i64 x.pg.seed, Value.int IntKind.i64 x.client, Value.int IntKind.i64 x.number, Value.int IntKind.i64 x.ballot, Value.slice a_v_slots x.slots.length c_v_slots, Value.slice a_v_incs x.incs.length c_v_incs, Value.slice a_v_changes x.changes.length c_v_changes, Value.int IntKind.i64 x.info.les, Value.int IntKind.i64 x.info.head.epoch, Value.int IntKind.i64 x.info.head.n, Value.int IntKind.i64 x.info.tail.epoch, Value.int IntKind.i64 x.info.tail.n, Value.int IntKind.i64 x.info.born, Value.int IntKind.i64 x.state.les, Value.int IntKind.i64 x.state.tail.epoch, Value.int IntKind.i64 x.state.tail.n, Value.slice a_v_state_log x.state.log.length c_v_state_log, Value.slice a_v_state_lasts x.state.lasts.length c_v_state_lasts, Value.slice a_v_state_items x.state.items.length c_v_state_items, Value.int IntKind.i64 x.entry.version.epoch, Value.int IntKind.i64 x.entry.version.n, Value.bool x.entry.remove, Value.int IntKind.i64 x.entry.errno, Value.string x.entry.name, Value.int IntKind.i64 x.entry.client, Value.int IntKind.i64 x.entry.number, Value.string x.object.name, Value.int IntKind.i64 x.object.version.epoch, Value.int IntKind.i64 x.object.version.n, Value.slice a_v_object_data x.object.data.length c_v_object_data, Value.int IntKind.i64 x.op.kind, Value.string x.op.name, Value.slice a_v_op_data x.op.data.length c_v_op_data, Value.int IntKind.i64 x.op.expect.epoch, Value.int IntKind.i64 x.op.expect.n, Value.slice a_v_items x.items.length c_v_items, Value.slice a_v_names x.names.length c_v_names, Value.int IntKind.i64 x.errno] 48)
  generalize w.alloc (Obj.cells #[Value.int IntKind.i64 x.kind, Value.int IntKind.i64 x.src.kind, Value.int IntKind.i64 x.src.id, Value.int IntKind.i64 x.dst.kind, Value.int IntKind.i64 x.dst.id, Value.int IntKind.i64 x.boot, Value.int IntKind.i64 x.epoch, Value.int IntKind.i64 x.pg.pool, Value.int IntKind.i64 x.pg.seed, Value.int IntKind.i64 x.client, Value.int IntKind.i64 x.number, Value.int IntKind.i64 x.ballot, Value.slice a_v_slots x.slots.length c_v_slots, Value.slice a_v_incs x.incs.length c_v_incs, Value.slice a_v_changes x.changes.length c_v_changes, Value.int IntKind.i64 x.info.les, Value.int IntKind.i64 x.info.head.epoch, Value.int IntKind.i64 x.info.head.n, Value.int IntKind.i64 x.info.tail.epoch, Value.int IntKind.i64 x.info.tail.n, Value.int IntKind.i64 x.info.born, Value.int IntKind.i64 x.state.les, Value.int IntKind.i64 x.state.tail.epoch, Value.int IntKind.i64 x.state.tail.n, Value.slice a_v_state_log x.state.log.length c_v_state_log, Value.slice a_v_state_lasts x.state.lasts.length c_v_state_lasts, Value.slice a_v_state_items x.state.items.length c_v_state_items, Value.int IntKind.i64 x.entry.version.epoch, Value.int IntKind.i64 x.entry.version.n, Value.bool x.entry.remove, Value.int IntKind.i64 x.entry.errno, Value.string x.entry.name, Value.int IntKind.i64 x.entry.client, Value.int IntKind.i64 x.entry.number, Value.string x.object.name, Value.int IntKind.i64 x.object.version.epoch, Value.int IntKind.i64 x.object.version.n, Value.slice a_v_object_data x.object.data.length c_v_object_data, Value.int IntKind.i64 x.op.kind, Value.string x.op.name, Value.slice a_v_op_data x.op.data.length c_v_op_data, Value.int IntKind.i64 x.op.expect.epoch, Value.int IntKind.i64 x.op.expect.n, Value.slice a_v_items x.items.length c_v_items, Value.slice a_v_names x.names.length c_v_names, Value.int IntKind.i64 x.errno] 48) = w0 at x0 S0 ⊢
  refine (int_c S0.own x.kind (by have := S0.len; simp only [List.length_append, List.length_nil, encI_length, bB_length, leB_length, encT_length, encBy_length] at this hm; omega)).mono ?_
  rintro e w1 ⟨v1, rfl, hG1⟩
  obtain ⟨L1, g1, S1⟩ := S0.then hG1
  obtain ⟨a1, c1, rfl, -, -⟩ := S1.own.shape
  have x1 : w1.heap[w.heap.size]? = some (Obj.cells #[Value.int IntKind.i64 x.kind, Value.int IntKind.i64 x.src.kind, Value.int IntKind.i64 x.src.id, Value.int IntKind.i64 x.dst.kind, Value.int IntKind.i64 x.dst.id, Value.int IntKind.i64 x.boot, Value.int IntKind.i64 x.epoch, Value.int IntKind.i64 x.pg.pool, Value.int IntKind.i64 x.pg.seed, Value.int IntKind.i64 x.client, Value.int IntKind.i64 x.number, Value.int IntKind.i64 x.ballot, Value.slice a_v_slots x.slots.length c_v_slots, Value.slice a_v_incs x.incs.length c_v_incs, Value.slice a_v_changes x.changes.length c_v_changes, Value.int IntKind.i64 x.info.les, Value.int IntKind.i64 x.info.head.epoch, Value.int IntKind.i64 x.info.head.n, Value.int IntKind.i64 x.info.tail.epoch, Value.int IntKind.i64 x.info.tail.n, Value.int IntKind.i64 x.info.born, Value.int IntKind.i64 x.state.les, Value.int IntKind.i64 x.state.tail.epoch, Value.int IntKind.i64 x.state.tail.n, Value.slice a_v_state_log x.state.log.length c_v_state_log, Value.slice a_v_state_lasts x.state.lasts.length c_v_state_lasts, Value.slice a_v_state_items x.state.items.length c_v_state_items, Value.int IntKind.i64 x.entry.version.epoch, Value.int IntKind.i64 x.entry.version.n, Value.bool x.entry.remove, Value.int IntKind.i64 x.entry.errno, Value.string x.entry.name, Value.int IntKind.i64 x.entry.client, Value.int IntKind.i64 x.entry.number, Value.string x.object.name, Value.int IntKind.i64 x.object.version.epoch, Value.int IntKind.i64 x.object.version.n, Value.slice a_v_object_data x.object.data.length c_v_object_data, Value.int IntKind.i64 x.op.kind, Value.string x.op.name, Value.slice a_v_op_data x.op.data.length c_v_op_data, Value.int IntKind.i64 x.op.expect.epoch, Value.int IntKind.i64 x.op.expect.n, Value.slice a_v_items x.items.length c_v_items, Value.slice a_v_names x.names.length c_v_names, Value.int IntKind.i64 x.errno] 48) := (hG1.old _ (lt_in x0) (fun hh => S0.own.ne x0 (by decide) _ hh rfl)).trans x0
  have z1 : w1.cell? ⟨w.heap.size, 1, none⟩ = some (Value.int IntKind.i64 x.src.kind) := cell_in x1
  have z2 : w1.cell? ⟨w.heap.size, 2, none⟩ = some (Value.int IntKind.i64 x.src.id) := cell_in x1
  have lx := lt_in x1
  go_wp2_with fail
  clear z1 z2 lx
  refine (putNode_c S1.own x.src ⟨i1, i2⟩ (by have := S1.len; simp only [List.length_append, List.length_nil, encI_length, bB_length, leB_length, encT_length, encBy_length] at this hm; simp only [NodeT.enc, List.length_append, List.length_nil, encI_length, bB_length, leB_length, encT_length, encBy_length] at this hm ⊢; omega)).mono ?_
  rintro e w2 ⟨v2, rfl, hG2⟩
  obtain ⟨L2, g2, S2⟩ := S1.then hG2
  obtain ⟨a2, c2, rfl, -, -⟩ := S2.own.shape
  have x2 : w2.heap[w.heap.size]? = some (Obj.cells #[Value.int IntKind.i64 x.kind, Value.int IntKind.i64 x.src.kind, Value.int IntKind.i64 x.src.id, Value.int IntKind.i64 x.dst.kind, Value.int IntKind.i64 x.dst.id, Value.int IntKind.i64 x.boot, Value.int IntKind.i64 x.epoch, Value.int IntKind.i64 x.pg.pool, Value.int IntKind.i64 x.pg.seed, Value.int IntKind.i64 x.client, Value.int IntKind.i64 x.number, Value.int IntKind.i64 x.ballot, Value.slice a_v_slots x.slots.length c_v_slots, Value.slice a_v_incs x.incs.length c_v_incs, Value.slice a_v_changes x.changes.length c_v_changes, Value.int IntKind.i64 x.info.les, Value.int IntKind.i64 x.info.head.epoch, Value.int IntKind.i64 x.info.head.n, Value.int IntKind.i64 x.info.tail.epoch, Value.int IntKind.i64 x.info.tail.n, Value.int IntKind.i64 x.info.born, Value.int IntKind.i64 x.state.les, Value.int IntKind.i64 x.state.tail.epoch, Value.int IntKind.i64 x.state.tail.n, Value.slice a_v_state_log x.state.log.length c_v_state_log, Value.slice a_v_state_lasts x.state.lasts.length c_v_state_lasts, Value.slice a_v_state_items x.state.items.length c_v_state_items, Value.int IntKind.i64 x.entry.version.epoch, Value.int IntKind.i64 x.entry.version.n, Value.bool x.entry.remove, Value.int IntKind.i64 x.entry.errno, Value.string x.entry.name, Value.int IntKind.i64 x.entry.client, Value.int IntKind.i64 x.entry.number, Value.string x.object.name, Value.int IntKind.i64 x.object.version.epoch, Value.int IntKind.i64 x.object.version.n, Value.slice a_v_object_data x.object.data.length c_v_object_data, Value.int IntKind.i64 x.op.kind, Value.string x.op.name, Value.slice a_v_op_data x.op.data.length c_v_op_data, Value.int IntKind.i64 x.op.expect.epoch, Value.int IntKind.i64 x.op.expect.n, Value.slice a_v_items x.items.length c_v_items, Value.slice a_v_names x.names.length c_v_names, Value.int IntKind.i64 x.errno] 48) := (hG2.old _ (lt_in x1) (fun hh => S1.own.ne x1 (by decide) _ hh rfl)).trans x1
  have z3 : w2.cell? ⟨w.heap.size, 3, none⟩ = some (Value.int IntKind.i64 x.dst.kind) := cell_in x2
  have z4 : w2.cell? ⟨w.heap.size, 4, none⟩ = some (Value.int IntKind.i64 x.dst.id) := cell_in x2
  have lx := lt_in x2
  go_wp2_with fail
  clear z3 z4 lx
  refine (putNode_c S2.own x.dst ⟨i3, i4⟩ (by have := S2.len; simp only [List.length_append, List.length_nil, encI_length, bB_length, leB_length, encT_length, encBy_length] at this hm; simp only [NodeT.enc, List.length_append, List.length_nil, encI_length, bB_length, leB_length, encT_length, encBy_length] at this hm ⊢; omega)).mono ?_
  rintro e w3 ⟨v3, rfl, hG3⟩
  obtain ⟨L3, g3, S3⟩ := S2.then hG3
  obtain ⟨a3, c3, rfl, -, -⟩ := S3.own.shape
  have x3 : w3.heap[w.heap.size]? = some (Obj.cells #[Value.int IntKind.i64 x.kind, Value.int IntKind.i64 x.src.kind, Value.int IntKind.i64 x.src.id, Value.int IntKind.i64 x.dst.kind, Value.int IntKind.i64 x.dst.id, Value.int IntKind.i64 x.boot, Value.int IntKind.i64 x.epoch, Value.int IntKind.i64 x.pg.pool, Value.int IntKind.i64 x.pg.seed, Value.int IntKind.i64 x.client, Value.int IntKind.i64 x.number, Value.int IntKind.i64 x.ballot, Value.slice a_v_slots x.slots.length c_v_slots, Value.slice a_v_incs x.incs.length c_v_incs, Value.slice a_v_changes x.changes.length c_v_changes, Value.int IntKind.i64 x.info.les, Value.int IntKind.i64 x.info.head.epoch, Value.int IntKind.i64 x.info.head.n, Value.int IntKind.i64 x.info.tail.epoch, Value.int IntKind.i64 x.info.tail.n, Value.int IntKind.i64 x.info.born, Value.int IntKind.i64 x.state.les, Value.int IntKind.i64 x.state.tail.epoch, Value.int IntKind.i64 x.state.tail.n, Value.slice a_v_state_log x.state.log.length c_v_state_log, Value.slice a_v_state_lasts x.state.lasts.length c_v_state_lasts, Value.slice a_v_state_items x.state.items.length c_v_state_items, Value.int IntKind.i64 x.entry.version.epoch, Value.int IntKind.i64 x.entry.version.n, Value.bool x.entry.remove, Value.int IntKind.i64 x.entry.errno, Value.string x.entry.name, Value.int IntKind.i64 x.entry.client, Value.int IntKind.i64 x.entry.number, Value.string x.object.name, Value.int IntKind.i64 x.object.version.epoch, Value.int IntKind.i64 x.object.version.n, Value.slice a_v_object_data x.object.data.length c_v_object_data, Value.int IntKind.i64 x.op.kind, Value.string x.op.name, Value.slice a_v_op_data x.op.data.length c_v_op_data, Value.int IntKind.i64 x.op.expect.epoch, Value.int IntKind.i64 x.op.expect.n, Value.slice a_v_items x.items.length c_v_items, Value.slice a_v_names x.names.length c_v_names, Value.int IntKind.i64 x.errno] 48) := (hG3.old _ (lt_in x2) (fun hh => S2.own.ne x2 (by decide) _ hh rfl)).trans x2
  have z5 : w3.cell? ⟨w.heap.size, 5, none⟩ = some (Value.int IntKind.i64 x.boot) := cell_in x3
  have lx := lt_in x3
  go_wp2_with fail
  clear z5 lx
  refine (int_c S3.own x.boot (by have := S3.len; simp only [List.length_append, List.length_nil, encI_length, bB_length, leB_length, encT_length, encBy_length] at this hm; omega)).mono ?_
  rintro e w4 ⟨v4, rfl, hG4⟩
  obtain ⟨L4, g4, S4⟩ := S3.then hG4
  obtain ⟨a4, c4, rfl, -, -⟩ := S4.own.shape
  have x4 : w4.heap[w.heap.size]? = some (Obj.cells #[Value.int IntKind.i64 x.kind, Value.int IntKind.i64 x.src.kind, Value.int IntKind.i64 x.src.id, Value.int IntKind.i64 x.dst.kind, Value.int IntKind.i64 x.dst.id, Value.int IntKind.i64 x.boot, Value.int IntKind.i64 x.epoch, Value.int IntKind.i64 x.pg.pool, Value.int IntKind.i64 x.pg.seed, Value.int IntKind.i64 x.client, Value.int IntKind.i64 x.number, Value.int IntKind.i64 x.ballot, Value.slice a_v_slots x.slots.length c_v_slots, Value.slice a_v_incs x.incs.length c_v_incs, Value.slice a_v_changes x.changes.length c_v_changes, Value.int IntKind.i64 x.info.les, Value.int IntKind.i64 x.info.head.epoch, Value.int IntKind.i64 x.info.head.n, Value.int IntKind.i64 x.info.tail.epoch, Value.int IntKind.i64 x.info.tail.n, Value.int IntKind.i64 x.info.born, Value.int IntKind.i64 x.state.les, Value.int IntKind.i64 x.state.tail.epoch, Value.int IntKind.i64 x.state.tail.n, Value.slice a_v_state_log x.state.log.length c_v_state_log, Value.slice a_v_state_lasts x.state.lasts.length c_v_state_lasts, Value.slice a_v_state_items x.state.items.length c_v_state_items, Value.int IntKind.i64 x.entry.version.epoch, Value.int IntKind.i64 x.entry.version.n, Value.bool x.entry.remove, Value.int IntKind.i64 x.entry.errno, Value.string x.entry.name, Value.int IntKind.i64 x.entry.client, Value.int IntKind.i64 x.entry.number, Value.string x.object.name, Value.int IntKind.i64 x.object.version.epoch, Value.int IntKind.i64 x.object.version.n, Value.slice a_v_object_data x.object.data.length c_v_object_data, Value.int IntKind.i64 x.op.kind, Value.string x.op.name, Value.slice a_v_op_data x.op.data.length c_v_op_data, Value.int IntKind.i64 x.op.expect.epoch, Value.int IntKind.i64 x.op.expect.n, Value.slice a_v_items x.items.length c_v_items, Value.slice a_v_names x.names.length c_v_names, Value.int IntKind.i64 x.errno] 48) := (hG4.old _ (lt_in x3) (fun hh => S3.own.ne x3 (by decide) _ hh rfl)).trans x3
  have z6 : w4.cell? ⟨w.heap.size, 6, none⟩ = some (Value.int IntKind.i64 x.epoch) := cell_in x4
  have lx := lt_in x4
  go_wp2_with fail
  clear z6 lx
  refine (int_c S4.own x.epoch (by have := S4.len; simp only [List.length_append, List.length_nil, encI_length, bB_length, leB_length, encT_length, encBy_length] at this hm; omega)).mono ?_
  rintro e w5 ⟨v5, rfl, hG5⟩
  obtain ⟨L5, g5, S5⟩ := S4.then hG5
  obtain ⟨a5, c5, rfl, -, -⟩ := S5.own.shape
  have x5 : w5.heap[w.heap.size]? = some (Obj.cells #[Value.int IntKind.i64 x.kind, Value.int IntKind.i64 x.src.kind, Value.int IntKind.i64 x.src.id, Value.int IntKind.i64 x.dst.kind, Value.int IntKind.i64 x.dst.id, Value.int IntKind.i64 x.boot, Value.int IntKind.i64 x.epoch, Value.int IntKind.i64 x.pg.pool, Value.int IntKind.i64 x.pg.seed, Value.int IntKind.i64 x.client, Value.int IntKind.i64 x.number, Value.int IntKind.i64 x.ballot, Value.slice a_v_slots x.slots.length c_v_slots, Value.slice a_v_incs x.incs.length c_v_incs, Value.slice a_v_changes x.changes.length c_v_changes, Value.int IntKind.i64 x.info.les, Value.int IntKind.i64 x.info.head.epoch, Value.int IntKind.i64 x.info.head.n, Value.int IntKind.i64 x.info.tail.epoch, Value.int IntKind.i64 x.info.tail.n, Value.int IntKind.i64 x.info.born, Value.int IntKind.i64 x.state.les, Value.int IntKind.i64 x.state.tail.epoch, Value.int IntKind.i64 x.state.tail.n, Value.slice a_v_state_log x.state.log.length c_v_state_log, Value.slice a_v_state_lasts x.state.lasts.length c_v_state_lasts, Value.slice a_v_state_items x.state.items.length c_v_state_items, Value.int IntKind.i64 x.entry.version.epoch, Value.int IntKind.i64 x.entry.version.n, Value.bool x.entry.remove, Value.int IntKind.i64 x.entry.errno, Value.string x.entry.name, Value.int IntKind.i64 x.entry.client, Value.int IntKind.i64 x.entry.number, Value.string x.object.name, Value.int IntKind.i64 x.object.version.epoch, Value.int IntKind.i64 x.object.version.n, Value.slice a_v_object_data x.object.data.length c_v_object_data, Value.int IntKind.i64 x.op.kind, Value.string x.op.name, Value.slice a_v_op_data x.op.data.length c_v_op_data, Value.int IntKind.i64 x.op.expect.epoch, Value.int IntKind.i64 x.op.expect.n, Value.slice a_v_items x.items.length c_v_items, Value.slice a_v_names x.names.length c_v_names, Value.int IntKind.i64 x.errno] 48) := (hG5.old _ (lt_in x4) (fun hh => S4.own.ne x4 (by decide) _ hh rfl)).trans x4
  have z7 : w5.cell? ⟨w.heap.size, 7, none⟩ = some (Value.int IntKind.i64 x.pg.pool) := cell_in x5
  have z8 : w5.cell? ⟨w.heap.size, 8, none⟩ = some (Value.int IntKind.i64 x.pg.seed) := cell_in x5
  have lx := lt_in x5
  go_wp2_with fail
  clear z7 z8 lx
  refine (putPg_c S5.own x.pg ⟨i7, i8⟩ (by have := S5.len; simp only [List.length_append, List.length_nil, encI_length, bB_length, leB_length, encT_length, encBy_length] at this hm; simp only [PgT.enc, List.length_append, List.length_nil, encI_length, bB_length, leB_length, encT_length, encBy_length] at this hm ⊢; omega)).mono ?_
  rintro e w6 ⟨v6, rfl, hG6⟩
  obtain ⟨L6, g6, S6⟩ := S5.then hG6
  obtain ⟨a6, c6, rfl, -, -⟩ := S6.own.shape
  have x6 : w6.heap[w.heap.size]? = some (Obj.cells #[Value.int IntKind.i64 x.kind, Value.int IntKind.i64 x.src.kind, Value.int IntKind.i64 x.src.id, Value.int IntKind.i64 x.dst.kind, Value.int IntKind.i64 x.dst.id, Value.int IntKind.i64 x.boot, Value.int IntKind.i64 x.epoch, Value.int IntKind.i64 x.pg.pool, Value.int IntKind.i64 x.pg.seed, Value.int IntKind.i64 x.client, Value.int IntKind.i64 x.number, Value.int IntKind.i64 x.ballot, Value.slice a_v_slots x.slots.length c_v_slots, Value.slice a_v_incs x.incs.length c_v_incs, Value.slice a_v_changes x.changes.length c_v_changes, Value.int IntKind.i64 x.info.les, Value.int IntKind.i64 x.info.head.epoch, Value.int IntKind.i64 x.info.head.n, Value.int IntKind.i64 x.info.tail.epoch, Value.int IntKind.i64 x.info.tail.n, Value.int IntKind.i64 x.info.born, Value.int IntKind.i64 x.state.les, Value.int IntKind.i64 x.state.tail.epoch, Value.int IntKind.i64 x.state.tail.n, Value.slice a_v_state_log x.state.log.length c_v_state_log, Value.slice a_v_state_lasts x.state.lasts.length c_v_state_lasts, Value.slice a_v_state_items x.state.items.length c_v_state_items, Value.int IntKind.i64 x.entry.version.epoch, Value.int IntKind.i64 x.entry.version.n, Value.bool x.entry.remove, Value.int IntKind.i64 x.entry.errno, Value.string x.entry.name, Value.int IntKind.i64 x.entry.client, Value.int IntKind.i64 x.entry.number, Value.string x.object.name, Value.int IntKind.i64 x.object.version.epoch, Value.int IntKind.i64 x.object.version.n, Value.slice a_v_object_data x.object.data.length c_v_object_data, Value.int IntKind.i64 x.op.kind, Value.string x.op.name, Value.slice a_v_op_data x.op.data.length c_v_op_data, Value.int IntKind.i64 x.op.expect.epoch, Value.int IntKind.i64 x.op.expect.n, Value.slice a_v_items x.items.length c_v_items, Value.slice a_v_names x.names.length c_v_names, Value.int IntKind.i64 x.errno] 48) := (hG6.old _ (lt_in x5) (fun hh => S5.own.ne x5 (by decide) _ hh rfl)).trans x5
  have z9 : w6.cell? ⟨w.heap.size, 9, none⟩ = some (Value.int IntKind.i64 x.client) := cell_in x6
  have lx := lt_in x6
  go_wp2_with fail
  clear z9 lx
  refine (int_c S6.own x.client (by have := S6.len; simp only [List.length_append, List.length_nil, encI_length, bB_length, leB_length, encT_length, encBy_length] at this hm; omega)).mono ?_
  rintro e w7 ⟨v7, rfl, hG7⟩
  obtain ⟨L7, g7, S7⟩ := S6.then hG7
  obtain ⟨a7, c7, rfl, -, -⟩ := S7.own.shape
  have x7 : w7.heap[w.heap.size]? = some (Obj.cells #[Value.int IntKind.i64 x.kind, Value.int IntKind.i64 x.src.kind, Value.int IntKind.i64 x.src.id, Value.int IntKind.i64 x.dst.kind, Value.int IntKind.i64 x.dst.id, Value.int IntKind.i64 x.boot, Value.int IntKind.i64 x.epoch, Value.int IntKind.i64 x.pg.pool, Value.int IntKind.i64 x.pg.seed, Value.int IntKind.i64 x.client, Value.int IntKind.i64 x.number, Value.int IntKind.i64 x.ballot, Value.slice a_v_slots x.slots.length c_v_slots, Value.slice a_v_incs x.incs.length c_v_incs, Value.slice a_v_changes x.changes.length c_v_changes, Value.int IntKind.i64 x.info.les, Value.int IntKind.i64 x.info.head.epoch, Value.int IntKind.i64 x.info.head.n, Value.int IntKind.i64 x.info.tail.epoch, Value.int IntKind.i64 x.info.tail.n, Value.int IntKind.i64 x.info.born, Value.int IntKind.i64 x.state.les, Value.int IntKind.i64 x.state.tail.epoch, Value.int IntKind.i64 x.state.tail.n, Value.slice a_v_state_log x.state.log.length c_v_state_log, Value.slice a_v_state_lasts x.state.lasts.length c_v_state_lasts, Value.slice a_v_state_items x.state.items.length c_v_state_items, Value.int IntKind.i64 x.entry.version.epoch, Value.int IntKind.i64 x.entry.version.n, Value.bool x.entry.remove, Value.int IntKind.i64 x.entry.errno, Value.string x.entry.name, Value.int IntKind.i64 x.entry.client, Value.int IntKind.i64 x.entry.number, Value.string x.object.name, Value.int IntKind.i64 x.object.version.epoch, Value.int IntKind.i64 x.object.version.n, Value.slice a_v_object_data x.object.data.length c_v_object_data, Value.int IntKind.i64 x.op.kind, Value.string x.op.name, Value.slice a_v_op_data x.op.data.length c_v_op_data, Value.int IntKind.i64 x.op.expect.epoch, Value.int IntKind.i64 x.op.expect.n, Value.slice a_v_items x.items.length c_v_items, Value.slice a_v_names x.names.length c_v_names, Value.int IntKind.i64 x.errno] 48) := (hG7.old _ (lt_in x6) (fun hh => S6.own.ne x6 (by decide) _ hh rfl)).trans x6
  have z10 : w7.cell? ⟨w.heap.size, 10, none⟩ = some (Value.int IntKind.i64 x.number) := cell_in x7
  have lx := lt_in x7
  go_wp2_with fail
  clear z10 lx
  refine (int_c S7.own x.number (by have := S7.len; simp only [List.length_append, List.length_nil, encI_length, bB_length, leB_length, encT_length, encBy_length] at this hm; omega)).mono ?_
  rintro e w8 ⟨v8, rfl, hG8⟩
  obtain ⟨L8, g8, S8⟩ := S7.then hG8
  obtain ⟨a8, c8, rfl, -, -⟩ := S8.own.shape
  have x8 : w8.heap[w.heap.size]? = some (Obj.cells #[Value.int IntKind.i64 x.kind, Value.int IntKind.i64 x.src.kind, Value.int IntKind.i64 x.src.id, Value.int IntKind.i64 x.dst.kind, Value.int IntKind.i64 x.dst.id, Value.int IntKind.i64 x.boot, Value.int IntKind.i64 x.epoch, Value.int IntKind.i64 x.pg.pool, Value.int IntKind.i64 x.pg.seed, Value.int IntKind.i64 x.client, Value.int IntKind.i64 x.number, Value.int IntKind.i64 x.ballot, Value.slice a_v_slots x.slots.length c_v_slots, Value.slice a_v_incs x.incs.length c_v_incs, Value.slice a_v_changes x.changes.length c_v_changes, Value.int IntKind.i64 x.info.les, Value.int IntKind.i64 x.info.head.epoch, Value.int IntKind.i64 x.info.head.n, Value.int IntKind.i64 x.info.tail.epoch, Value.int IntKind.i64 x.info.tail.n, Value.int IntKind.i64 x.info.born, Value.int IntKind.i64 x.state.les, Value.int IntKind.i64 x.state.tail.epoch, Value.int IntKind.i64 x.state.tail.n, Value.slice a_v_state_log x.state.log.length c_v_state_log, Value.slice a_v_state_lasts x.state.lasts.length c_v_state_lasts, Value.slice a_v_state_items x.state.items.length c_v_state_items, Value.int IntKind.i64 x.entry.version.epoch, Value.int IntKind.i64 x.entry.version.n, Value.bool x.entry.remove, Value.int IntKind.i64 x.entry.errno, Value.string x.entry.name, Value.int IntKind.i64 x.entry.client, Value.int IntKind.i64 x.entry.number, Value.string x.object.name, Value.int IntKind.i64 x.object.version.epoch, Value.int IntKind.i64 x.object.version.n, Value.slice a_v_object_data x.object.data.length c_v_object_data, Value.int IntKind.i64 x.op.kind, Value.string x.op.name, Value.slice a_v_op_data x.op.data.length c_v_op_data, Value.int IntKind.i64 x.op.expect.epoch, Value.int IntKind.i64 x.op.expect.n, Value.slice a_v_items x.items.length c_v_items, Value.slice a_v_names x.names.length c_v_names, Value.int IntKind.i64 x.errno] 48) := (hG8.old _ (lt_in x7) (fun hh => S7.own.ne x7 (by decide) _ hh rfl)).trans x7
  have z11 : w8.cell? ⟨w.heap.size, 11, none⟩ = some (Value.int IntKind.i64 x.ballot) := cell_in x8
  have lx := lt_in x8
  go_wp2_with fail
  clear z11 lx
  refine (int_c S8.own x.ballot (by have := S8.len; simp only [List.length_append, List.length_nil, encI_length, bB_length, leB_length, encT_length, encBy_length] at this hm; omega)).mono ?_
  rintro e w9 ⟨v9, rfl, hG9⟩
  obtain ⟨L9, g9, S9⟩ := S8.then hG9
  obtain ⟨a9, c9, rfl, -, -⟩ := S9.own.shape
  have x9 : w9.heap[w.heap.size]? = some (Obj.cells #[Value.int IntKind.i64 x.kind, Value.int IntKind.i64 x.src.kind, Value.int IntKind.i64 x.src.id, Value.int IntKind.i64 x.dst.kind, Value.int IntKind.i64 x.dst.id, Value.int IntKind.i64 x.boot, Value.int IntKind.i64 x.epoch, Value.int IntKind.i64 x.pg.pool, Value.int IntKind.i64 x.pg.seed, Value.int IntKind.i64 x.client, Value.int IntKind.i64 x.number, Value.int IntKind.i64 x.ballot, Value.slice a_v_slots x.slots.length c_v_slots, Value.slice a_v_incs x.incs.length c_v_incs, Value.slice a_v_changes x.changes.length c_v_changes, Value.int IntKind.i64 x.info.les, Value.int IntKind.i64 x.info.head.epoch, Value.int IntKind.i64 x.info.head.n, Value.int IntKind.i64 x.info.tail.epoch, Value.int IntKind.i64 x.info.tail.n, Value.int IntKind.i64 x.info.born, Value.int IntKind.i64 x.state.les, Value.int IntKind.i64 x.state.tail.epoch, Value.int IntKind.i64 x.state.tail.n, Value.slice a_v_state_log x.state.log.length c_v_state_log, Value.slice a_v_state_lasts x.state.lasts.length c_v_state_lasts, Value.slice a_v_state_items x.state.items.length c_v_state_items, Value.int IntKind.i64 x.entry.version.epoch, Value.int IntKind.i64 x.entry.version.n, Value.bool x.entry.remove, Value.int IntKind.i64 x.entry.errno, Value.string x.entry.name, Value.int IntKind.i64 x.entry.client, Value.int IntKind.i64 x.entry.number, Value.string x.object.name, Value.int IntKind.i64 x.object.version.epoch, Value.int IntKind.i64 x.object.version.n, Value.slice a_v_object_data x.object.data.length c_v_object_data, Value.int IntKind.i64 x.op.kind, Value.string x.op.name, Value.slice a_v_op_data x.op.data.length c_v_op_data, Value.int IntKind.i64 x.op.expect.epoch, Value.int IntKind.i64 x.op.expect.n, Value.slice a_v_items x.items.length c_v_items, Value.slice a_v_names x.names.length c_v_names, Value.int IntKind.i64 x.errno] 48) := (hG9.old _ (lt_in x8) (fun hh => S8.own.ne x8 (by decide) _ hh rfl)).trans x8
  have z12 : w9.cell? ⟨w.heap.size, 12, none⟩ = some (Value.slice a_v_slots x.slots.length c_v_slots) := cell_in x9
  have lx := lt_in x9
  go_wp2_with fail
  clear z12 lx
  refine (countRef_c S9.own x.slots.length (by have := S9.len; simp only [List.length_append, List.length_nil, encI_length, bB_length, leB_length, encT_length, encBy_length] at this hm; omega)).mono ?_
  rintro e w10 ⟨v10, rfl, hG10⟩
  obtain ⟨L10, g10, S10⟩ := S9.then hG10
  obtain ⟨a10, c10, rfl, -, -⟩ := S10.own.shape
  have x10 : w10.heap[w.heap.size]? = some (Obj.cells #[Value.int IntKind.i64 x.kind, Value.int IntKind.i64 x.src.kind, Value.int IntKind.i64 x.src.id, Value.int IntKind.i64 x.dst.kind, Value.int IntKind.i64 x.dst.id, Value.int IntKind.i64 x.boot, Value.int IntKind.i64 x.epoch, Value.int IntKind.i64 x.pg.pool, Value.int IntKind.i64 x.pg.seed, Value.int IntKind.i64 x.client, Value.int IntKind.i64 x.number, Value.int IntKind.i64 x.ballot, Value.slice a_v_slots x.slots.length c_v_slots, Value.slice a_v_incs x.incs.length c_v_incs, Value.slice a_v_changes x.changes.length c_v_changes, Value.int IntKind.i64 x.info.les, Value.int IntKind.i64 x.info.head.epoch, Value.int IntKind.i64 x.info.head.n, Value.int IntKind.i64 x.info.tail.epoch, Value.int IntKind.i64 x.info.tail.n, Value.int IntKind.i64 x.info.born, Value.int IntKind.i64 x.state.les, Value.int IntKind.i64 x.state.tail.epoch, Value.int IntKind.i64 x.state.tail.n, Value.slice a_v_state_log x.state.log.length c_v_state_log, Value.slice a_v_state_lasts x.state.lasts.length c_v_state_lasts, Value.slice a_v_state_items x.state.items.length c_v_state_items, Value.int IntKind.i64 x.entry.version.epoch, Value.int IntKind.i64 x.entry.version.n, Value.bool x.entry.remove, Value.int IntKind.i64 x.entry.errno, Value.string x.entry.name, Value.int IntKind.i64 x.entry.client, Value.int IntKind.i64 x.entry.number, Value.string x.object.name, Value.int IntKind.i64 x.object.version.epoch, Value.int IntKind.i64 x.object.version.n, Value.slice a_v_object_data x.object.data.length c_v_object_data, Value.int IntKind.i64 x.op.kind, Value.string x.op.name, Value.slice a_v_op_data x.op.data.length c_v_op_data, Value.int IntKind.i64 x.op.expect.epoch, Value.int IntKind.i64 x.op.expect.n, Value.slice a_v_items x.items.length c_v_items, Value.slice a_v_names x.names.length c_v_names, Value.int IntKind.i64 x.errno] 48) := (hG10.old _ (lt_in x9) (fun hh => S9.own.ne x9 (by decide) _ hh rfl)).trans x9
  have z12 : w10.cell? ⟨w.heap.size, 12, none⟩ = some (Value.slice a_v_slots x.slots.length c_v_slots) := cell_in x10
  have lx := lt_in x10
  go_wp2
  clear z12 lx
  go_loopw [59, 0] (fun i o w' => ∃ (k : Nat) (L : List UInt8) (gL : Option Nat), k ≤ x.slots.length ∧ i = .int .i64 k ∧ Out w w' o out g (([] ++ encI x.kind ++ x.src.enc ++ x.dst.enc ++ encI x.boot ++ encI x.epoch ++ x.pg.enc ++ encI x.client ++ encI x.number ++ encI x.ballot ++ leB 4 x.slots.length) ++ (x.slots.take k).flatMap SlotT.enc) L gL ∧ w'.heap[w.heap.size]? = some (Obj.cells #[Value.int IntKind.i64 x.kind, Value.int IntKind.i64 x.src.kind, Value.int IntKind.i64 x.src.id, Value.int IntKind.i64 x.dst.kind, Value.int IntKind.i64 x.dst.id, Value.int IntKind.i64 x.boot, Value.int IntKind.i64 x.epoch, Value.int IntKind.i64 x.pg.pool, Value.int IntKind.i64 x.pg.seed, Value.int IntKind.i64 x.client, Value.int IntKind.i64 x.number, Value.int IntKind.i64 x.ballot, Value.slice a_v_slots x.slots.length c_v_slots, Value.slice a_v_incs x.incs.length c_v_incs, Value.slice a_v_changes x.changes.length c_v_changes, Value.int IntKind.i64 x.info.les, Value.int IntKind.i64 x.info.head.epoch, Value.int IntKind.i64 x.info.head.n, Value.int IntKind.i64 x.info.tail.epoch, Value.int IntKind.i64 x.info.tail.n, Value.int IntKind.i64 x.info.born, Value.int IntKind.i64 x.state.les, Value.int IntKind.i64 x.state.tail.epoch, Value.int IntKind.i64 x.state.tail.n, Value.slice a_v_state_log x.state.log.length c_v_state_log, Value.slice a_v_state_lasts x.state.lasts.length c_v_state_lasts, Value.slice a_v_state_items x.state.items.length c_v_state_items, Value.int IntKind.i64 x.entry.version.epoch, Value.int IntKind.i64 x.entry.version.n, Value.bool x.entry.remove, Value.int IntKind.i64 x.entry.errno, Value.string x.entry.name, Value.int IntKind.i64 x.entry.client, Value.int IntKind.i64 x.entry.number, Value.string x.object.name, Value.int IntKind.i64 x.object.version.epoch, Value.int IntKind.i64 x.object.version.n, Value.slice a_v_object_data x.object.data.length c_v_object_data, Value.int IntKind.i64 x.op.kind, Value.string x.op.name, Value.slice a_v_op_data x.op.data.length c_v_op_data, Value.int IntKind.i64 x.op.expect.epoch, Value.int IntKind.i64 x.op.expect.n, Value.slice a_v_items x.items.length c_v_items, Value.slice a_v_names x.names.length c_v_names, Value.int IntKind.i64 x.errno] 48)) (fun i _ _ => x.slots.length - (intOf i).toNat)
  case atStart => exact ⟨0, L10, g10, by omega, rfl, S10.cast (by simp), x10⟩
  case round =>
    obtain ⟨k, L, gL, hk, rfl, SL, xl⟩ := hrel
    by_cases hk2 : k < x.slots.length
    · have hki : (k : Int) < (x.slots.length : Int) := by omega
      have hnl : x.slots.length ≤ 9223372036854775807 := l0.small
      have hd := SL.data hS
      obtain ⟨b, off, cs, rfl, hb, hcl, hcell, hr⟩ := (l0.heap (fun _ _ h => SlotT.Is.heap h (fun _ h => h) hd) (fun _ h => h) hd).at hk2
      have hfl := flatMap_le SlotT.enc x.slots (k + 1)
      have hft := flatMap_take SlotT.enc x.slots k hk2
      rw [hft, List.length_append] at hfl
      obtain ⟨e, he⟩ : ∃ e, e = x.slots[k] := ⟨_, rfl⟩
      rw [← he] at hr hft hfl
      have HFT := Lib.hid hft
      clear hft he hcl
      obtain ⟨aL, cL, rfl, -, -⟩ := SL.own.shape
      have hr0 := hr
      obtain ⟨uv_value, rfl, j0, j1, m0⟩ := hr
      obtain ⟨au0, cu0, rfl, -⟩ := m0.shape
      have y0 : wr.cell? ⟨b, off + k * 3, none⟩ = some (Value.int IntKind.i64 e.slot) := hcell 0 (by omega)
      have y1 : wr.cell? ⟨b, off + k * 3 + 1, none⟩ = some (Value.int IntKind.i64 e.ballot) := hcell 1 (by omega)
      have y2 : wr.cell? ⟨b, off + k * 3 + 2, none⟩ = some (Value.slice au0 e.value.length cu0) := hcell 2 (by omega)
      go_wp2_with fail
      have SA := SL.alloc (Obj.cells #[Value.int IntKind.i64 e.slot, Value.int IntKind.i64 e.ballot, Value.slice au0 e.value.length cu0] 148)
      have xa : (wr.alloc (Obj.cells #[Value.int IntKind.i64 e.slot, Value.int IntKind.i64 e.ballot, Value.slice au0 e.value.length cu0] 148)).heap[w.heap.size]? = _ := (Below.heap_alloc _ _ _ (lt_in xl)).trans xl
      have hrA : SlotT.Is (wr.alloc (Obj.cells #[Value.int IntKind.i64 e.slot, Value.int IntKind.i64 e.ballot, Value.slice au0 e.value.length cu0] 148)) S _ e := hr0.heap (fun _ h => h) (fun k hk => Below.heap_alloc _ _ _ (Nat.lt_of_lt_of_le (hS k hk).1 SL.kept.size))
      generalize wr.alloc (Obj.cells #[Value.int IntKind.i64 e.slot, Value.int IntKind.i64 e.ballot, Value.slice au0 e.value.length cu0] 148) = wa at SA xa hrA ⊢
      refine (putSlot_c (S := S) SA.own (fun k hk => ⟨Nat.lt_of_lt_of_le (hS k hk).1 SA.kept.size, fun hh => by rcases SA.new k hh with h' | h'; exact (hS k hk).2 h'; exact absurd (hS k hk).1 (by omega)⟩) e hrA (by have := SL.len; simp only [List.length_append, List.length_nil, encI_length, bB_length, leB_length, encT_length, encBy_length] at this hm hfl; omega)).mono ?_
      rintro _ w9 ⟨v9, rfl, hG⟩
      obtain ⟨L9, g9, S9⟩ := SA.then hG
      have xl9 : w9.heap[w.heap.size]? = _ := (hG.old _ (lt_in xa) (fun hh => SA.own.ne xa (by decide) _ hh rfl)).trans xa
      obtain ⟨a9, c9, rfl, -, -⟩ := S9.own.shape
      have X9 := Lib.hid xl9
      have HS9 := Lib.hid (S9.cast (more' := ([] ++ encI x.kind ++ x.src.enc ++ x.dst.enc ++ encI x.boot ++ encI x.epoch ++ x.pg.enc ++ encI x.client ++ encI x.number ++ encI x.ballot ++ leB 4 x.slots.length) ++ (x.slots.take (k + 1)).flatMap SlotT.enc) (by rw [HFT.out, List.append_assoc]))
      clear xl9 S9 hG
      go_wp2
      exact ⟨⟨k + 1, L9, g9, by omega, by simp, HS9.out, X9.out⟩, by simp [intOf]; omega⟩
    · obtain rfl : k = x.slots.length := by omega
      have S11 : Out w wr _ out g (([] ++ encI x.kind ++ x.src.enc ++ x.dst.enc ++ encI x.boot ++ encI x.epoch ++ x.pg.enc ++ encI x.client ++ encI x.number ++ encI x.ballot ++ leB 4 x.slots.length) ++ x.slots.flatMap SlotT.enc) L gL := SL.cast (by rw [List.take_length])
      obtain ⟨a11, c11, rfl, -, -⟩ := S11.own.shape
      have x11 := xl
      rename World => w11
      clear SL xl
      have z13 : w11.cell? ⟨w.heap.size, 13, none⟩ = some (Value.slice a_v_incs x.incs.length c_v_incs) := cell_in x11
      have lx := lt_in x11
      go_wp2_with fail
      clear z13 lx
      refine (countRef_c S11.own x.incs.length (by have := S11.len; simp only [List.length_append, List.length_nil, encI_length, bB_length, leB_length, encT_length, encBy_length] at this hm; omega)).mono ?_
      rintro e w12 ⟨v12, rfl, hG12⟩
      obtain ⟨L12, g12, S12⟩ := S11.then hG12
      obtain ⟨a12, c12, rfl, -, -⟩ := S12.own.shape
      have x12 : w12.heap[w.heap.size]? = some (Obj.cells #[Value.int IntKind.i64 x.kind, Value.int IntKind.i64 x.src.kind, Value.int IntKind.i64 x.src.id, Value.int IntKind.i64 x.dst.kind, Value.int IntKind.i64 x.dst.id, Value.int IntKind.i64 x.boot, Value.int IntKind.i64 x.epoch, Value.int IntKind.i64 x.pg.pool, Value.int IntKind.i64 x.pg.seed, Value.int IntKind.i64 x.client, Value.int IntKind.i64 x.number, Value.int IntKind.i64 x.ballot, Value.slice a_v_slots x.slots.length c_v_slots, Value.slice a_v_incs x.incs.length c_v_incs, Value.slice a_v_changes x.changes.length c_v_changes, Value.int IntKind.i64 x.info.les, Value.int IntKind.i64 x.info.head.epoch, Value.int IntKind.i64 x.info.head.n, Value.int IntKind.i64 x.info.tail.epoch, Value.int IntKind.i64 x.info.tail.n, Value.int IntKind.i64 x.info.born, Value.int IntKind.i64 x.state.les, Value.int IntKind.i64 x.state.tail.epoch, Value.int IntKind.i64 x.state.tail.n, Value.slice a_v_state_log x.state.log.length c_v_state_log, Value.slice a_v_state_lasts x.state.lasts.length c_v_state_lasts, Value.slice a_v_state_items x.state.items.length c_v_state_items, Value.int IntKind.i64 x.entry.version.epoch, Value.int IntKind.i64 x.entry.version.n, Value.bool x.entry.remove, Value.int IntKind.i64 x.entry.errno, Value.string x.entry.name, Value.int IntKind.i64 x.entry.client, Value.int IntKind.i64 x.entry.number, Value.string x.object.name, Value.int IntKind.i64 x.object.version.epoch, Value.int IntKind.i64 x.object.version.n, Value.slice a_v_object_data x.object.data.length c_v_object_data, Value.int IntKind.i64 x.op.kind, Value.string x.op.name, Value.slice a_v_op_data x.op.data.length c_v_op_data, Value.int IntKind.i64 x.op.expect.epoch, Value.int IntKind.i64 x.op.expect.n, Value.slice a_v_items x.items.length c_v_items, Value.slice a_v_names x.names.length c_v_names, Value.int IntKind.i64 x.errno] 48) := (hG12.old _ (lt_in x11) (fun hh => S11.own.ne x11 (by decide) _ hh rfl)).trans x11
      have z13 : w12.cell? ⟨w.heap.size, 13, none⟩ = some (Value.slice a_v_incs x.incs.length c_v_incs) := cell_in x12
      have lx := lt_in x12
      go_wp2
      clear z13 lx
      go_loopw [75, 0] (fun i o w' => ∃ (k : Nat) (L : List UInt8) (gL : Option Nat), k ≤ x.incs.length ∧ i = .int .i64 k ∧ Out w w' o out g (([] ++ encI x.kind ++ x.src.enc ++ x.dst.enc ++ encI x.boot ++ encI x.epoch ++ x.pg.enc ++ encI x.client ++ encI x.number ++ encI x.ballot ++ leB 4 x.slots.length ++ x.slots.flatMap SlotT.enc ++ leB 4 x.incs.length) ++ (x.incs.take k).flatMap IncT.enc) L gL ∧ w'.heap[w.heap.size]? = some (Obj.cells #[Value.int IntKind.i64 x.kind, Value.int IntKind.i64 x.src.kind, Value.int IntKind.i64 x.src.id, Value.int IntKind.i64 x.dst.kind, Value.int IntKind.i64 x.dst.id, Value.int IntKind.i64 x.boot, Value.int IntKind.i64 x.epoch, Value.int IntKind.i64 x.pg.pool, Value.int IntKind.i64 x.pg.seed, Value.int IntKind.i64 x.client, Value.int IntKind.i64 x.number, Value.int IntKind.i64 x.ballot, Value.slice a_v_slots x.slots.length c_v_slots, Value.slice a_v_incs x.incs.length c_v_incs, Value.slice a_v_changes x.changes.length c_v_changes, Value.int IntKind.i64 x.info.les, Value.int IntKind.i64 x.info.head.epoch, Value.int IntKind.i64 x.info.head.n, Value.int IntKind.i64 x.info.tail.epoch, Value.int IntKind.i64 x.info.tail.n, Value.int IntKind.i64 x.info.born, Value.int IntKind.i64 x.state.les, Value.int IntKind.i64 x.state.tail.epoch, Value.int IntKind.i64 x.state.tail.n, Value.slice a_v_state_log x.state.log.length c_v_state_log, Value.slice a_v_state_lasts x.state.lasts.length c_v_state_lasts, Value.slice a_v_state_items x.state.items.length c_v_state_items, Value.int IntKind.i64 x.entry.version.epoch, Value.int IntKind.i64 x.entry.version.n, Value.bool x.entry.remove, Value.int IntKind.i64 x.entry.errno, Value.string x.entry.name, Value.int IntKind.i64 x.entry.client, Value.int IntKind.i64 x.entry.number, Value.string x.object.name, Value.int IntKind.i64 x.object.version.epoch, Value.int IntKind.i64 x.object.version.n, Value.slice a_v_object_data x.object.data.length c_v_object_data, Value.int IntKind.i64 x.op.kind, Value.string x.op.name, Value.slice a_v_op_data x.op.data.length c_v_op_data, Value.int IntKind.i64 x.op.expect.epoch, Value.int IntKind.i64 x.op.expect.n, Value.slice a_v_items x.items.length c_v_items, Value.slice a_v_names x.names.length c_v_names, Value.int IntKind.i64 x.errno] 48)) (fun i _ _ => x.incs.length - (intOf i).toNat)
      case atStart => exact ⟨0, L12, g12, by omega, rfl, S12.cast (by simp), x12⟩
      case round =>
        obtain ⟨k, L, gL, hk, rfl, SL, xl⟩ := hrel
        by_cases hk2 : k < x.incs.length
        · have hki : (k : Int) < (x.incs.length : Int) := by omega
          have hnl : x.incs.length ≤ 9223372036854775807 := l1.small
          have hd := SL.data hS
          obtain ⟨b, off, cs, rfl, hb, hcl, hcell, hr⟩ := (l1.heap (fun _ _ h => IncT.Is.heap h (fun _ h => h) hd) (fun _ h => h) hd).at hk2
          have hfl := flatMap_le IncT.enc x.incs (k + 1)
          have hft := flatMap_take IncT.enc x.incs k hk2
          rw [hft, List.length_append] at hfl
          obtain ⟨e, he⟩ : ∃ e, e = x.incs[k] := ⟨_, rfl⟩
          rw [← he] at hr hft hfl
          have HFT := Lib.hid hft
          clear hft he hcl
          obtain ⟨aL, cL, rfl, -, -⟩ := SL.own.shape
          have hr0 := hr
          obtain ⟨uv_changes, rfl, j0, m0⟩ := hr
          obtain ⟨au0, cu0, rfl, -⟩ := m0.shape
          have y0 : wr.cell? ⟨b, off + k * 2, none⟩ = some (Value.int IntKind.i64 e.epoch) := hcell 0 (by omega)
          have y1 : wr.cell? ⟨b, off + k * 2 + 1, none⟩ = some (Value.slice au0 e.changes.length cu0) := hcell 1 (by omega)
          go_wp2_with fail
          have SA := SL.alloc (Obj.cells #[Value.int IntKind.i64 e.epoch, Value.slice au0 e.changes.length cu0] 60)
          have xa : (wr.alloc (Obj.cells #[Value.int IntKind.i64 e.epoch, Value.slice au0 e.changes.length cu0] 60)).heap[w.heap.size]? = _ := (Below.heap_alloc _ _ _ (lt_in xl)).trans xl
          have hrA : IncT.Is (wr.alloc (Obj.cells #[Value.int IntKind.i64 e.epoch, Value.slice au0 e.changes.length cu0] 60)) S _ e := hr0.heap (fun _ h => h) (fun k hk => Below.heap_alloc _ _ _ (Nat.lt_of_lt_of_le (hS k hk).1 SL.kept.size))
          generalize wr.alloc (Obj.cells #[Value.int IntKind.i64 e.epoch, Value.slice au0 e.changes.length cu0] 60) = wa at SA xa hrA ⊢
          refine (putInc_c (S := S) SA.own (fun k hk => ⟨Nat.lt_of_lt_of_le (hS k hk).1 SA.kept.size, fun hh => by rcases SA.new k hh with h' | h'; exact (hS k hk).2 h'; exact absurd (hS k hk).1 (by omega)⟩) e hrA (by have := SL.len; simp only [List.length_append, List.length_nil, encI_length, bB_length, leB_length, encT_length, encBy_length] at this hm hfl; omega)).mono ?_
          rintro _ w9 ⟨v9, rfl, hG⟩
          obtain ⟨L9, g9, S9⟩ := SA.then hG
          have xl9 : w9.heap[w.heap.size]? = _ := (hG.old _ (lt_in xa) (fun hh => SA.own.ne xa (by decide) _ hh rfl)).trans xa
          obtain ⟨a9, c9, rfl, -, -⟩ := S9.own.shape
          have X9 := Lib.hid xl9
          have HS9 := Lib.hid (S9.cast (more' := ([] ++ encI x.kind ++ x.src.enc ++ x.dst.enc ++ encI x.boot ++ encI x.epoch ++ x.pg.enc ++ encI x.client ++ encI x.number ++ encI x.ballot ++ leB 4 x.slots.length ++ x.slots.flatMap SlotT.enc ++ leB 4 x.incs.length) ++ (x.incs.take (k + 1)).flatMap IncT.enc) (by rw [HFT.out, List.append_assoc]))
          clear xl9 S9 hG
          go_wp2
          exact ⟨⟨k + 1, L9, g9, by omega, by simp, HS9.out, X9.out⟩, by simp [intOf]; omega⟩
        · obtain rfl : k = x.incs.length := by omega
          have S13 : Out w wr _ out g (([] ++ encI x.kind ++ x.src.enc ++ x.dst.enc ++ encI x.boot ++ encI x.epoch ++ x.pg.enc ++ encI x.client ++ encI x.number ++ encI x.ballot ++ leB 4 x.slots.length ++ x.slots.flatMap SlotT.enc ++ leB 4 x.incs.length) ++ x.incs.flatMap IncT.enc) L gL := SL.cast (by rw [List.take_length])
          obtain ⟨a13, c13, rfl, -, -⟩ := S13.own.shape
          have x13 := xl
          rename World => w13
          clear SL xl
          have z14 : w13.cell? ⟨w.heap.size, 14, none⟩ = some (Value.slice a_v_changes x.changes.length c_v_changes) := cell_in x13
          have lx := lt_in x13
          go_wp2_with fail
          clear z14 lx
          refine (countRef_c S13.own x.changes.length (by have := S13.len; simp only [List.length_append, List.length_nil, encI_length, bB_length, leB_length, encT_length, encBy_length] at this hm; omega)).mono ?_
          rintro e w14 ⟨v14, rfl, hG14⟩
          obtain ⟨L14, g14, S14⟩ := S13.then hG14
          obtain ⟨a14, c14, rfl, -, -⟩ := S14.own.shape
          have x14 : w14.heap[w.heap.size]? = some (Obj.cells #[Value.int IntKind.i64 x.kind, Value.int IntKind.i64 x.src.kind, Value.int IntKind.i64 x.src.id, Value.int IntKind.i64 x.dst.kind, Value.int IntKind.i64 x.dst.id, Value.int IntKind.i64 x.boot, Value.int IntKind.i64 x.epoch, Value.int IntKind.i64 x.pg.pool, Value.int IntKind.i64 x.pg.seed, Value.int IntKind.i64 x.client, Value.int IntKind.i64 x.number, Value.int IntKind.i64 x.ballot, Value.slice a_v_slots x.slots.length c_v_slots, Value.slice a_v_incs x.incs.length c_v_incs, Value.slice a_v_changes x.changes.length c_v_changes, Value.int IntKind.i64 x.info.les, Value.int IntKind.i64 x.info.head.epoch, Value.int IntKind.i64 x.info.head.n, Value.int IntKind.i64 x.info.tail.epoch, Value.int IntKind.i64 x.info.tail.n, Value.int IntKind.i64 x.info.born, Value.int IntKind.i64 x.state.les, Value.int IntKind.i64 x.state.tail.epoch, Value.int IntKind.i64 x.state.tail.n, Value.slice a_v_state_log x.state.log.length c_v_state_log, Value.slice a_v_state_lasts x.state.lasts.length c_v_state_lasts, Value.slice a_v_state_items x.state.items.length c_v_state_items, Value.int IntKind.i64 x.entry.version.epoch, Value.int IntKind.i64 x.entry.version.n, Value.bool x.entry.remove, Value.int IntKind.i64 x.entry.errno, Value.string x.entry.name, Value.int IntKind.i64 x.entry.client, Value.int IntKind.i64 x.entry.number, Value.string x.object.name, Value.int IntKind.i64 x.object.version.epoch, Value.int IntKind.i64 x.object.version.n, Value.slice a_v_object_data x.object.data.length c_v_object_data, Value.int IntKind.i64 x.op.kind, Value.string x.op.name, Value.slice a_v_op_data x.op.data.length c_v_op_data, Value.int IntKind.i64 x.op.expect.epoch, Value.int IntKind.i64 x.op.expect.n, Value.slice a_v_items x.items.length c_v_items, Value.slice a_v_names x.names.length c_v_names, Value.int IntKind.i64 x.errno] 48) := (hG14.old _ (lt_in x13) (fun hh => S13.own.ne x13 (by decide) _ hh rfl)).trans x13
          have z14 : w14.cell? ⟨w.heap.size, 14, none⟩ = some (Value.slice a_v_changes x.changes.length c_v_changes) := cell_in x14
          have lx := lt_in x14
          go_wp2
          clear z14 lx
          go_loopw [91, 0] (fun i o w' => ∃ (k : Nat) (L : List UInt8) (gL : Option Nat), k ≤ x.changes.length ∧ i = .int .i64 k ∧ Out w w' o out g (([] ++ encI x.kind ++ x.src.enc ++ x.dst.enc ++ encI x.boot ++ encI x.epoch ++ x.pg.enc ++ encI x.client ++ encI x.number ++ encI x.ballot ++ leB 4 x.slots.length ++ x.slots.flatMap SlotT.enc ++ leB 4 x.incs.length ++ x.incs.flatMap IncT.enc ++ leB 4 x.changes.length) ++ (x.changes.take k).flatMap ChangeT.enc) L gL ∧ w'.heap[w.heap.size]? = some (Obj.cells #[Value.int IntKind.i64 x.kind, Value.int IntKind.i64 x.src.kind, Value.int IntKind.i64 x.src.id, Value.int IntKind.i64 x.dst.kind, Value.int IntKind.i64 x.dst.id, Value.int IntKind.i64 x.boot, Value.int IntKind.i64 x.epoch, Value.int IntKind.i64 x.pg.pool, Value.int IntKind.i64 x.pg.seed, Value.int IntKind.i64 x.client, Value.int IntKind.i64 x.number, Value.int IntKind.i64 x.ballot, Value.slice a_v_slots x.slots.length c_v_slots, Value.slice a_v_incs x.incs.length c_v_incs, Value.slice a_v_changes x.changes.length c_v_changes, Value.int IntKind.i64 x.info.les, Value.int IntKind.i64 x.info.head.epoch, Value.int IntKind.i64 x.info.head.n, Value.int IntKind.i64 x.info.tail.epoch, Value.int IntKind.i64 x.info.tail.n, Value.int IntKind.i64 x.info.born, Value.int IntKind.i64 x.state.les, Value.int IntKind.i64 x.state.tail.epoch, Value.int IntKind.i64 x.state.tail.n, Value.slice a_v_state_log x.state.log.length c_v_state_log, Value.slice a_v_state_lasts x.state.lasts.length c_v_state_lasts, Value.slice a_v_state_items x.state.items.length c_v_state_items, Value.int IntKind.i64 x.entry.version.epoch, Value.int IntKind.i64 x.entry.version.n, Value.bool x.entry.remove, Value.int IntKind.i64 x.entry.errno, Value.string x.entry.name, Value.int IntKind.i64 x.entry.client, Value.int IntKind.i64 x.entry.number, Value.string x.object.name, Value.int IntKind.i64 x.object.version.epoch, Value.int IntKind.i64 x.object.version.n, Value.slice a_v_object_data x.object.data.length c_v_object_data, Value.int IntKind.i64 x.op.kind, Value.string x.op.name, Value.slice a_v_op_data x.op.data.length c_v_op_data, Value.int IntKind.i64 x.op.expect.epoch, Value.int IntKind.i64 x.op.expect.n, Value.slice a_v_items x.items.length c_v_items, Value.slice a_v_names x.names.length c_v_names, Value.int IntKind.i64 x.errno] 48)) (fun i _ _ => x.changes.length - (intOf i).toNat)
          case atStart => exact ⟨0, L14, g14, by omega, rfl, S14.cast (by simp), x14⟩
          case round =>
            obtain ⟨k, L, gL, hk, rfl, SL, xl⟩ := hrel
            by_cases hk2 : k < x.changes.length
            · have hki : (k : Int) < (x.changes.length : Int) := by omega
              have hnl : x.changes.length ≤ 9223372036854775807 := l2.small
              have hd := SL.data hS
              obtain ⟨b, off, cs, rfl, hb, hcl, hcell, hr⟩ := (l2.heap (fun _ _ h => ChangeT.Is.heap h (fun _ h => h) hd) (fun _ h => h) hd).at hk2
              have hfl := flatMap_le ChangeT.enc x.changes (k + 1)
              have hft := flatMap_take ChangeT.enc x.changes k hk2
              rw [hft, List.length_append] at hfl
              obtain ⟨e, he⟩ : ∃ e, e = x.changes[k] := ⟨_, rfl⟩
              rw [← he] at hr hft hfl
              have HFT := Lib.hid hft
              clear hft he hcl
              obtain ⟨aL, cL, rfl, -, -⟩ := SL.own.shape
              have hr0 := hr
              obtain ⟨uv_bucket_items, uv_bucket_weights, rfl, j0, j1, j2, j3, j4, j5, j6, j7, j8, m0, m1⟩ := hr
              obtain ⟨au0, cu0, rfl, -⟩ := m0.shape
              obtain ⟨au1, cu1, rfl, -⟩ := m1.shape
              have y0 : wr.cell? ⟨b, off + k * 11, none⟩ = some (Value.int IntKind.i64 e.kind) := hcell 0 (by omega)
              have y1 : wr.cell? ⟨b, off + k * 11 + 1, none⟩ = some (Value.int IntKind.i64 e.osd) := hcell 1 (by omega)
              have y2 : wr.cell? ⟨b, off + k * 11 + 2, none⟩ = some (Value.int IntKind.i64 e.value) := hcell 2 (by omega)
              have y3 : wr.cell? ⟨b, off + k * 11 + 3, none⟩ = some (Value.int IntKind.i64 e.pool.id) := hcell 3 (by omega)
              have y4 : wr.cell? ⟨b, off + k * 11 + 4, none⟩ = some (Value.int IntKind.i64 e.pool.size) := hcell 4 (by omega)
              have y5 : wr.cell? ⟨b, off + k * 11 + 5, none⟩ = some (Value.int IntKind.i64 e.pool.min) := hcell 5 (by omega)
              have y6 : wr.cell? ⟨b, off + k * 11 + 6, none⟩ = some (Value.int IntKind.i64 e.pool.pgs) := hcell 6 (by omega)
              have y7 : wr.cell? ⟨b, off + k * 11 + 7, none⟩ = some (Value.int IntKind.i64 e.bucket.id) := hcell 7 (by omega)
              have y8 : wr.cell? ⟨b, off + k * 11 + 8, none⟩ = some (Value.int IntKind.i64 e.bucket.kind) := hcell 8 (by omega)
              have y9 : wr.cell? ⟨b, off + k * 11 + 9, none⟩ = some (Value.slice au0 e.bucket.items.length cu0) := hcell 9 (by omega)
              have y10 : wr.cell? ⟨b, off + k * 11 + 10, none⟩ = some (Value.slice au1 e.bucket.weights.length cu1) := hcell 10 (by omega)
              go_wp2_with fail
              have SA := SL.alloc (Obj.cells #[Value.int IntKind.i64 e.kind, Value.int IntKind.i64 e.osd, Value.int IntKind.i64 e.value, Value.int IntKind.i64 e.pool.id, Value.int IntKind.i64 e.pool.size, Value.int IntKind.i64 e.pool.min, Value.int IntKind.i64 e.pool.pgs, Value.int IntKind.i64 e.bucket.id, Value.int IntKind.i64 e.bucket.kind, Value.slice au0 e.bucket.items.length cu0, Value.slice au1 e.bucket.weights.length cu1] 160)
              have xa : (wr.alloc (Obj.cells #[Value.int IntKind.i64 e.kind, Value.int IntKind.i64 e.osd, Value.int IntKind.i64 e.value, Value.int IntKind.i64 e.pool.id, Value.int IntKind.i64 e.pool.size, Value.int IntKind.i64 e.pool.min, Value.int IntKind.i64 e.pool.pgs, Value.int IntKind.i64 e.bucket.id, Value.int IntKind.i64 e.bucket.kind, Value.slice au0 e.bucket.items.length cu0, Value.slice au1 e.bucket.weights.length cu1] 160)).heap[w.heap.size]? = _ := (Below.heap_alloc _ _ _ (lt_in xl)).trans xl
              have hrA : ChangeT.Is (wr.alloc (Obj.cells #[Value.int IntKind.i64 e.kind, Value.int IntKind.i64 e.osd, Value.int IntKind.i64 e.value, Value.int IntKind.i64 e.pool.id, Value.int IntKind.i64 e.pool.size, Value.int IntKind.i64 e.pool.min, Value.int IntKind.i64 e.pool.pgs, Value.int IntKind.i64 e.bucket.id, Value.int IntKind.i64 e.bucket.kind, Value.slice au0 e.bucket.items.length cu0, Value.slice au1 e.bucket.weights.length cu1] 160)) S _ e := hr0.heap (fun _ h => h) (fun k hk => Below.heap_alloc _ _ _ (Nat.lt_of_lt_of_le (hS k hk).1 SL.kept.size))
              generalize wr.alloc (Obj.cells #[Value.int IntKind.i64 e.kind, Value.int IntKind.i64 e.osd, Value.int IntKind.i64 e.value, Value.int IntKind.i64 e.pool.id, Value.int IntKind.i64 e.pool.size, Value.int IntKind.i64 e.pool.min, Value.int IntKind.i64 e.pool.pgs, Value.int IntKind.i64 e.bucket.id, Value.int IntKind.i64 e.bucket.kind, Value.slice au0 e.bucket.items.length cu0, Value.slice au1 e.bucket.weights.length cu1] 160) = wa at SA xa hrA ⊢
              refine (putChange_c (S := S) SA.own (fun k hk => ⟨Nat.lt_of_lt_of_le (hS k hk).1 SA.kept.size, fun hh => by rcases SA.new k hh with h' | h'; exact (hS k hk).2 h'; exact absurd (hS k hk).1 (by omega)⟩) e hrA (by have := SL.len; simp only [List.length_append, List.length_nil, encI_length, bB_length, leB_length, encT_length, encBy_length] at this hm hfl; omega)).mono ?_
              rintro _ w9 ⟨v9, rfl, hG⟩
              obtain ⟨L9, g9, S9⟩ := SA.then hG
              have xl9 : w9.heap[w.heap.size]? = _ := (hG.old _ (lt_in xa) (fun hh => SA.own.ne xa (by decide) _ hh rfl)).trans xa
              obtain ⟨a9, c9, rfl, -, -⟩ := S9.own.shape
              have X9 := Lib.hid xl9
              have HS9 := Lib.hid (S9.cast (more' := ([] ++ encI x.kind ++ x.src.enc ++ x.dst.enc ++ encI x.boot ++ encI x.epoch ++ x.pg.enc ++ encI x.client ++ encI x.number ++ encI x.ballot ++ leB 4 x.slots.length ++ x.slots.flatMap SlotT.enc ++ leB 4 x.incs.length ++ x.incs.flatMap IncT.enc ++ leB 4 x.changes.length) ++ (x.changes.take (k + 1)).flatMap ChangeT.enc) (by rw [HFT.out, List.append_assoc]))
              clear xl9 S9 hG
              go_wp2
              exact ⟨⟨k + 1, L9, g9, by omega, by simp, HS9.out, X9.out⟩, by simp [intOf]; omega⟩
            · obtain rfl : k = x.changes.length := by omega
              have S15 : Out w wr _ out g (([] ++ encI x.kind ++ x.src.enc ++ x.dst.enc ++ encI x.boot ++ encI x.epoch ++ x.pg.enc ++ encI x.client ++ encI x.number ++ encI x.ballot ++ leB 4 x.slots.length ++ x.slots.flatMap SlotT.enc ++ leB 4 x.incs.length ++ x.incs.flatMap IncT.enc ++ leB 4 x.changes.length) ++ x.changes.flatMap ChangeT.enc) L gL := SL.cast (by rw [List.take_length])
              obtain ⟨a15, c15, rfl, -, -⟩ := S15.own.shape
              have x15 := xl
              rename World => w15
              clear SL xl
              have z15 : w15.cell? ⟨w.heap.size, 15, none⟩ = some (Value.int IntKind.i64 x.info.les) := cell_in x15
              have z16 : w15.cell? ⟨w.heap.size, 16, none⟩ = some (Value.int IntKind.i64 x.info.head.epoch) := cell_in x15
              have z17 : w15.cell? ⟨w.heap.size, 17, none⟩ = some (Value.int IntKind.i64 x.info.head.n) := cell_in x15
              have z18 : w15.cell? ⟨w.heap.size, 18, none⟩ = some (Value.int IntKind.i64 x.info.tail.epoch) := cell_in x15
              have z19 : w15.cell? ⟨w.heap.size, 19, none⟩ = some (Value.int IntKind.i64 x.info.tail.n) := cell_in x15
              have z20 : w15.cell? ⟨w.heap.size, 20, none⟩ = some (Value.int IntKind.i64 x.info.born) := cell_in x15
              have lx := lt_in x15
              go_wp2_with fail
              clear z15 z16 z17 z18 z19 z20 lx
              refine (putInfo_c S15.own x.info ⟨i12, i13, i14, i15, i16, i17⟩ (by have := S15.len; simp only [List.length_append, List.length_nil, encI_length, bB_length, leB_length, encT_length, encBy_length] at this hm; simp only [InfoT.enc, List.length_append, List.length_nil, encI_length, bB_length, leB_length, encT_length, encBy_length] at this hm ⊢; omega)).mono ?_
              rintro e w16 ⟨v16, rfl, hG16⟩
              obtain ⟨L16, g16, S16⟩ := S15.then hG16
              obtain ⟨a16, c16, rfl, -, -⟩ := S16.own.shape
              have x16 : w16.heap[w.heap.size]? = some (Obj.cells #[Value.int IntKind.i64 x.kind, Value.int IntKind.i64 x.src.kind, Value.int IntKind.i64 x.src.id, Value.int IntKind.i64 x.dst.kind, Value.int IntKind.i64 x.dst.id, Value.int IntKind.i64 x.boot, Value.int IntKind.i64 x.epoch, Value.int IntKind.i64 x.pg.pool, Value.int IntKind.i64 x.pg.seed, Value.int IntKind.i64 x.client, Value.int IntKind.i64 x.number, Value.int IntKind.i64 x.ballot, Value.slice a_v_slots x.slots.length c_v_slots, Value.slice a_v_incs x.incs.length c_v_incs, Value.slice a_v_changes x.changes.length c_v_changes, Value.int IntKind.i64 x.info.les, Value.int IntKind.i64 x.info.head.epoch, Value.int IntKind.i64 x.info.head.n, Value.int IntKind.i64 x.info.tail.epoch, Value.int IntKind.i64 x.info.tail.n, Value.int IntKind.i64 x.info.born, Value.int IntKind.i64 x.state.les, Value.int IntKind.i64 x.state.tail.epoch, Value.int IntKind.i64 x.state.tail.n, Value.slice a_v_state_log x.state.log.length c_v_state_log, Value.slice a_v_state_lasts x.state.lasts.length c_v_state_lasts, Value.slice a_v_state_items x.state.items.length c_v_state_items, Value.int IntKind.i64 x.entry.version.epoch, Value.int IntKind.i64 x.entry.version.n, Value.bool x.entry.remove, Value.int IntKind.i64 x.entry.errno, Value.string x.entry.name, Value.int IntKind.i64 x.entry.client, Value.int IntKind.i64 x.entry.number, Value.string x.object.name, Value.int IntKind.i64 x.object.version.epoch, Value.int IntKind.i64 x.object.version.n, Value.slice a_v_object_data x.object.data.length c_v_object_data, Value.int IntKind.i64 x.op.kind, Value.string x.op.name, Value.slice a_v_op_data x.op.data.length c_v_op_data, Value.int IntKind.i64 x.op.expect.epoch, Value.int IntKind.i64 x.op.expect.n, Value.slice a_v_items x.items.length c_v_items, Value.slice a_v_names x.names.length c_v_names, Value.int IntKind.i64 x.errno] 48) := (hG16.old _ (lt_in x15) (fun hh => S15.own.ne x15 (by decide) _ hh rfl)).trans x15
              have z21 : w16.cell? ⟨w.heap.size, 21, none⟩ = some (Value.int IntKind.i64 x.state.les) := cell_in x16
              have z22 : w16.cell? ⟨w.heap.size, 22, none⟩ = some (Value.int IntKind.i64 x.state.tail.epoch) := cell_in x16
              have z23 : w16.cell? ⟨w.heap.size, 23, none⟩ = some (Value.int IntKind.i64 x.state.tail.n) := cell_in x16
              have z24 : w16.cell? ⟨w.heap.size, 24, none⟩ = some (Value.slice a_v_state_log x.state.log.length c_v_state_log) := cell_in x16
              have z25 : w16.cell? ⟨w.heap.size, 25, none⟩ = some (Value.slice a_v_state_lasts x.state.lasts.length c_v_state_lasts) := cell_in x16
              have z26 : w16.cell? ⟨w.heap.size, 26, none⟩ = some (Value.slice a_v_state_items x.state.items.length c_v_state_items) := cell_in x16
              have lx := lt_in x16
              go_wp2_with fail
              clear z21 z22 z23 z24 z25 z26 lx
              have hd16 := S16.data hS
              have hx16 : StateT.Is w16 S [Value.int IntKind.i64 x.state.les, Value.int IntKind.i64 x.state.tail.epoch, Value.int IntKind.i64 x.state.tail.n, Value.slice a_v_state_log x.state.log.length c_v_state_log, Value.slice a_v_state_lasts x.state.lasts.length c_v_state_lasts, Value.slice a_v_state_items x.state.items.length c_v_state_items] x.state := ⟨_, _, _, rfl, i18, i19, i20, l3.heap (fun _ _ h => EntryT.Is.heap h) (fun _ h => h) hd16, l4.heap (fun _ _ h => LastT.Is.heap h) (fun _ h => h) hd16, l5.heap (fun _ _ h => ItemT.Is.heap h) (fun _ h => h) hd16⟩
              refine (putState_c (S := S) S16.own (fun k hk => ⟨Nat.lt_of_lt_of_le (hS k hk).1 S16.kept.size, fun hh => by rcases S16.new k hh with h' | h'; exact (hS k hk).2 h'; exact absurd (hS k hk).1 (by omega)⟩) x.state hx16 (by have := S16.len; simp only [List.length_append, List.length_nil, encI_length, bB_length, leB_length, encT_length, encBy_length] at this hm; omega)).mono ?_
              rintro e w17 ⟨v17, rfl, hG17⟩
              obtain ⟨L17, g17, S17⟩ := S16.then hG17
              obtain ⟨a17, c17, rfl, -, -⟩ := S17.own.shape
              have x17 : w17.heap[w.heap.size]? = some (Obj.cells #[Value.int IntKind.i64 x.kind, Value.int IntKind.i64 x.src.kind, Value.int IntKind.i64 x.src.id, Value.int IntKind.i64 x.dst.kind, Value.int IntKind.i64 x.dst.id, Value.int IntKind.i64 x.boot, Value.int IntKind.i64 x.epoch, Value.int IntKind.i64 x.pg.pool, Value.int IntKind.i64 x.pg.seed, Value.int IntKind.i64 x.client, Value.int IntKind.i64 x.number, Value.int IntKind.i64 x.ballot, Value.slice a_v_slots x.slots.length c_v_slots, Value.slice a_v_incs x.incs.length c_v_incs, Value.slice a_v_changes x.changes.length c_v_changes, Value.int IntKind.i64 x.info.les, Value.int IntKind.i64 x.info.head.epoch, Value.int IntKind.i64 x.info.head.n, Value.int IntKind.i64 x.info.tail.epoch, Value.int IntKind.i64 x.info.tail.n, Value.int IntKind.i64 x.info.born, Value.int IntKind.i64 x.state.les, Value.int IntKind.i64 x.state.tail.epoch, Value.int IntKind.i64 x.state.tail.n, Value.slice a_v_state_log x.state.log.length c_v_state_log, Value.slice a_v_state_lasts x.state.lasts.length c_v_state_lasts, Value.slice a_v_state_items x.state.items.length c_v_state_items, Value.int IntKind.i64 x.entry.version.epoch, Value.int IntKind.i64 x.entry.version.n, Value.bool x.entry.remove, Value.int IntKind.i64 x.entry.errno, Value.string x.entry.name, Value.int IntKind.i64 x.entry.client, Value.int IntKind.i64 x.entry.number, Value.string x.object.name, Value.int IntKind.i64 x.object.version.epoch, Value.int IntKind.i64 x.object.version.n, Value.slice a_v_object_data x.object.data.length c_v_object_data, Value.int IntKind.i64 x.op.kind, Value.string x.op.name, Value.slice a_v_op_data x.op.data.length c_v_op_data, Value.int IntKind.i64 x.op.expect.epoch, Value.int IntKind.i64 x.op.expect.n, Value.slice a_v_items x.items.length c_v_items, Value.slice a_v_names x.names.length c_v_names, Value.int IntKind.i64 x.errno] 48) := (hG17.old _ (lt_in x16) (fun hh => S16.own.ne x16 (by decide) _ hh rfl)).trans x16
              have z27 : w17.cell? ⟨w.heap.size, 27, none⟩ = some (Value.int IntKind.i64 x.entry.version.epoch) := cell_in x17
              have z28 : w17.cell? ⟨w.heap.size, 28, none⟩ = some (Value.int IntKind.i64 x.entry.version.n) := cell_in x17
              have z29 : w17.cell? ⟨w.heap.size, 29, none⟩ = some (Value.bool x.entry.remove) := cell_in x17
              have z30 : w17.cell? ⟨w.heap.size, 30, none⟩ = some (Value.int IntKind.i64 x.entry.errno) := cell_in x17
              have z31 : w17.cell? ⟨w.heap.size, 31, none⟩ = some (Value.string x.entry.name) := cell_in x17
              have z32 : w17.cell? ⟨w.heap.size, 32, none⟩ = some (Value.int IntKind.i64 x.entry.client) := cell_in x17
              have z33 : w17.cell? ⟨w.heap.size, 33, none⟩ = some (Value.int IntKind.i64 x.entry.number) := cell_in x17
              have lx := lt_in x17
              go_wp2_with fail
              clear z27 z28 z29 z30 z31 z32 z33 lx
              refine (putEntry_c S17.own x.entry ⟨i21, i22, i23, i24, i25⟩ (by have := S17.len; simp only [List.length_append, List.length_nil, encI_length, bB_length, leB_length, encT_length, encBy_length] at this hm; simp only [EntryT.enc, List.length_append, List.length_nil, encI_length, bB_length, leB_length, encT_length, encBy_length] at this hm ⊢; omega)).mono ?_
              rintro e w18 ⟨v18, rfl, hG18⟩
              obtain ⟨L18, g18, S18⟩ := S17.then hG18
              obtain ⟨a18, c18, rfl, -, -⟩ := S18.own.shape
              have x18 : w18.heap[w.heap.size]? = some (Obj.cells #[Value.int IntKind.i64 x.kind, Value.int IntKind.i64 x.src.kind, Value.int IntKind.i64 x.src.id, Value.int IntKind.i64 x.dst.kind, Value.int IntKind.i64 x.dst.id, Value.int IntKind.i64 x.boot, Value.int IntKind.i64 x.epoch, Value.int IntKind.i64 x.pg.pool, Value.int IntKind.i64 x.pg.seed, Value.int IntKind.i64 x.client, Value.int IntKind.i64 x.number, Value.int IntKind.i64 x.ballot, Value.slice a_v_slots x.slots.length c_v_slots, Value.slice a_v_incs x.incs.length c_v_incs, Value.slice a_v_changes x.changes.length c_v_changes, Value.int IntKind.i64 x.info.les, Value.int IntKind.i64 x.info.head.epoch, Value.int IntKind.i64 x.info.head.n, Value.int IntKind.i64 x.info.tail.epoch, Value.int IntKind.i64 x.info.tail.n, Value.int IntKind.i64 x.info.born, Value.int IntKind.i64 x.state.les, Value.int IntKind.i64 x.state.tail.epoch, Value.int IntKind.i64 x.state.tail.n, Value.slice a_v_state_log x.state.log.length c_v_state_log, Value.slice a_v_state_lasts x.state.lasts.length c_v_state_lasts, Value.slice a_v_state_items x.state.items.length c_v_state_items, Value.int IntKind.i64 x.entry.version.epoch, Value.int IntKind.i64 x.entry.version.n, Value.bool x.entry.remove, Value.int IntKind.i64 x.entry.errno, Value.string x.entry.name, Value.int IntKind.i64 x.entry.client, Value.int IntKind.i64 x.entry.number, Value.string x.object.name, Value.int IntKind.i64 x.object.version.epoch, Value.int IntKind.i64 x.object.version.n, Value.slice a_v_object_data x.object.data.length c_v_object_data, Value.int IntKind.i64 x.op.kind, Value.string x.op.name, Value.slice a_v_op_data x.op.data.length c_v_op_data, Value.int IntKind.i64 x.op.expect.epoch, Value.int IntKind.i64 x.op.expect.n, Value.slice a_v_items x.items.length c_v_items, Value.slice a_v_names x.names.length c_v_names, Value.int IntKind.i64 x.errno] 48) := (hG18.old _ (lt_in x17) (fun hh => S17.own.ne x17 (by decide) _ hh rfl)).trans x17
              have z34 : w18.cell? ⟨w.heap.size, 34, none⟩ = some (Value.string x.object.name) := cell_in x18
              have z35 : w18.cell? ⟨w.heap.size, 35, none⟩ = some (Value.int IntKind.i64 x.object.version.epoch) := cell_in x18
              have z36 : w18.cell? ⟨w.heap.size, 36, none⟩ = some (Value.int IntKind.i64 x.object.version.n) := cell_in x18
              have z37 : w18.cell? ⟨w.heap.size, 37, none⟩ = some (Value.slice a_v_object_data x.object.data.length c_v_object_data) := cell_in x18
              have lx := lt_in x18
              go_wp2_with fail
              clear z34 z35 z36 z37 lx
              have hd18 := S18.data hS
              have hx18 : ObjectT.Is w18 S [Value.string x.object.name, Value.int IntKind.i64 x.object.version.epoch, Value.int IntKind.i64 x.object.version.n, Value.slice a_v_object_data x.object.data.length c_v_object_data] x.object := ⟨_, rfl, i26, i27, l6.heap (fun _ _ h => byteIs_stable _ _ _ _ _ _ h (fun _ h => h) hd18) (fun _ h => h) hd18⟩
              refine (putObject_c (S := S) S18.own (fun k hk => ⟨Nat.lt_of_lt_of_le (hS k hk).1 S18.kept.size, fun hh => by rcases S18.new k hh with h' | h'; exact (hS k hk).2 h'; exact absurd (hS k hk).1 (by omega)⟩) x.object hx18 (by have := S18.len; simp only [List.length_append, List.length_nil, encI_length, bB_length, leB_length, encT_length, encBy_length] at this hm; omega)).mono ?_
              rintro e w19 ⟨v19, rfl, hG19⟩
              obtain ⟨L19, g19, S19⟩ := S18.then hG19
              obtain ⟨a19, c19, rfl, -, -⟩ := S19.own.shape
              have x19 : w19.heap[w.heap.size]? = some (Obj.cells #[Value.int IntKind.i64 x.kind, Value.int IntKind.i64 x.src.kind, Value.int IntKind.i64 x.src.id, Value.int IntKind.i64 x.dst.kind, Value.int IntKind.i64 x.dst.id, Value.int IntKind.i64 x.boot, Value.int IntKind.i64 x.epoch, Value.int IntKind.i64 x.pg.pool, Value.int IntKind.i64 x.pg.seed, Value.int IntKind.i64 x.client, Value.int IntKind.i64 x.number, Value.int IntKind.i64 x.ballot, Value.slice a_v_slots x.slots.length c_v_slots, Value.slice a_v_incs x.incs.length c_v_incs, Value.slice a_v_changes x.changes.length c_v_changes, Value.int IntKind.i64 x.info.les, Value.int IntKind.i64 x.info.head.epoch, Value.int IntKind.i64 x.info.head.n, Value.int IntKind.i64 x.info.tail.epoch, Value.int IntKind.i64 x.info.tail.n, Value.int IntKind.i64 x.info.born, Value.int IntKind.i64 x.state.les, Value.int IntKind.i64 x.state.tail.epoch, Value.int IntKind.i64 x.state.tail.n, Value.slice a_v_state_log x.state.log.length c_v_state_log, Value.slice a_v_state_lasts x.state.lasts.length c_v_state_lasts, Value.slice a_v_state_items x.state.items.length c_v_state_items, Value.int IntKind.i64 x.entry.version.epoch, Value.int IntKind.i64 x.entry.version.n, Value.bool x.entry.remove, Value.int IntKind.i64 x.entry.errno, Value.string x.entry.name, Value.int IntKind.i64 x.entry.client, Value.int IntKind.i64 x.entry.number, Value.string x.object.name, Value.int IntKind.i64 x.object.version.epoch, Value.int IntKind.i64 x.object.version.n, Value.slice a_v_object_data x.object.data.length c_v_object_data, Value.int IntKind.i64 x.op.kind, Value.string x.op.name, Value.slice a_v_op_data x.op.data.length c_v_op_data, Value.int IntKind.i64 x.op.expect.epoch, Value.int IntKind.i64 x.op.expect.n, Value.slice a_v_items x.items.length c_v_items, Value.slice a_v_names x.names.length c_v_names, Value.int IntKind.i64 x.errno] 48) := (hG19.old _ (lt_in x18) (fun hh => S18.own.ne x18 (by decide) _ hh rfl)).trans x18
              have z38 : w19.cell? ⟨w.heap.size, 38, none⟩ = some (Value.int IntKind.i64 x.op.kind) := cell_in x19
              have z39 : w19.cell? ⟨w.heap.size, 39, none⟩ = some (Value.string x.op.name) := cell_in x19
              have z40 : w19.cell? ⟨w.heap.size, 40, none⟩ = some (Value.slice a_v_op_data x.op.data.length c_v_op_data) := cell_in x19
              have z41 : w19.cell? ⟨w.heap.size, 41, none⟩ = some (Value.int IntKind.i64 x.op.expect.epoch) := cell_in x19
              have z42 : w19.cell? ⟨w.heap.size, 42, none⟩ = some (Value.int IntKind.i64 x.op.expect.n) := cell_in x19
              have lx := lt_in x19
              go_wp2_with fail
              clear z38 z39 z40 z41 z42 lx
              have hd19 := S19.data hS
              have hx19 : OpT.Is w19 S [Value.int IntKind.i64 x.op.kind, Value.string x.op.name, Value.slice a_v_op_data x.op.data.length c_v_op_data, Value.int IntKind.i64 x.op.expect.epoch, Value.int IntKind.i64 x.op.expect.n] x.op := ⟨_, rfl, i28, i29, i30, l7.heap (fun _ _ h => byteIs_stable _ _ _ _ _ _ h (fun _ h => h) hd19) (fun _ h => h) hd19⟩
              refine (putOp_c (S := S) S19.own (fun k hk => ⟨Nat.lt_of_lt_of_le (hS k hk).1 S19.kept.size, fun hh => by rcases S19.new k hh with h' | h'; exact (hS k hk).2 h'; exact absurd (hS k hk).1 (by omega)⟩) x.op hx19 (by have := S19.len; simp only [List.length_append, List.length_nil, encI_length, bB_length, leB_length, encT_length, encBy_length] at this hm; omega)).mono ?_
              rintro e w20 ⟨v20, rfl, hG20⟩
              obtain ⟨L20, g20, S20⟩ := S19.then hG20
              obtain ⟨a20, c20, rfl, -, -⟩ := S20.own.shape
              have x20 : w20.heap[w.heap.size]? = some (Obj.cells #[Value.int IntKind.i64 x.kind, Value.int IntKind.i64 x.src.kind, Value.int IntKind.i64 x.src.id, Value.int IntKind.i64 x.dst.kind, Value.int IntKind.i64 x.dst.id, Value.int IntKind.i64 x.boot, Value.int IntKind.i64 x.epoch, Value.int IntKind.i64 x.pg.pool, Value.int IntKind.i64 x.pg.seed, Value.int IntKind.i64 x.client, Value.int IntKind.i64 x.number, Value.int IntKind.i64 x.ballot, Value.slice a_v_slots x.slots.length c_v_slots, Value.slice a_v_incs x.incs.length c_v_incs, Value.slice a_v_changes x.changes.length c_v_changes, Value.int IntKind.i64 x.info.les, Value.int IntKind.i64 x.info.head.epoch, Value.int IntKind.i64 x.info.head.n, Value.int IntKind.i64 x.info.tail.epoch, Value.int IntKind.i64 x.info.tail.n, Value.int IntKind.i64 x.info.born, Value.int IntKind.i64 x.state.les, Value.int IntKind.i64 x.state.tail.epoch, Value.int IntKind.i64 x.state.tail.n, Value.slice a_v_state_log x.state.log.length c_v_state_log, Value.slice a_v_state_lasts x.state.lasts.length c_v_state_lasts, Value.slice a_v_state_items x.state.items.length c_v_state_items, Value.int IntKind.i64 x.entry.version.epoch, Value.int IntKind.i64 x.entry.version.n, Value.bool x.entry.remove, Value.int IntKind.i64 x.entry.errno, Value.string x.entry.name, Value.int IntKind.i64 x.entry.client, Value.int IntKind.i64 x.entry.number, Value.string x.object.name, Value.int IntKind.i64 x.object.version.epoch, Value.int IntKind.i64 x.object.version.n, Value.slice a_v_object_data x.object.data.length c_v_object_data, Value.int IntKind.i64 x.op.kind, Value.string x.op.name, Value.slice a_v_op_data x.op.data.length c_v_op_data, Value.int IntKind.i64 x.op.expect.epoch, Value.int IntKind.i64 x.op.expect.n, Value.slice a_v_items x.items.length c_v_items, Value.slice a_v_names x.names.length c_v_names, Value.int IntKind.i64 x.errno] 48) := (hG20.old _ (lt_in x19) (fun hh => S19.own.ne x19 (by decide) _ hh rfl)).trans x19
              have z43 : w20.cell? ⟨w.heap.size, 43, none⟩ = some (Value.slice a_v_items x.items.length c_v_items) := cell_in x20
              have lx := lt_in x20
              go_wp2_with fail
              clear z43 lx
              refine (countRef_c S20.own x.items.length (by have := S20.len; simp only [List.length_append, List.length_nil, encI_length, bB_length, leB_length, encT_length, encBy_length] at this hm; omega)).mono ?_
              rintro e w21 ⟨v21, rfl, hG21⟩
              obtain ⟨L21, g21, S21⟩ := S20.then hG21
              obtain ⟨a21, c21, rfl, -, -⟩ := S21.own.shape
              have x21 : w21.heap[w.heap.size]? = some (Obj.cells #[Value.int IntKind.i64 x.kind, Value.int IntKind.i64 x.src.kind, Value.int IntKind.i64 x.src.id, Value.int IntKind.i64 x.dst.kind, Value.int IntKind.i64 x.dst.id, Value.int IntKind.i64 x.boot, Value.int IntKind.i64 x.epoch, Value.int IntKind.i64 x.pg.pool, Value.int IntKind.i64 x.pg.seed, Value.int IntKind.i64 x.client, Value.int IntKind.i64 x.number, Value.int IntKind.i64 x.ballot, Value.slice a_v_slots x.slots.length c_v_slots, Value.slice a_v_incs x.incs.length c_v_incs, Value.slice a_v_changes x.changes.length c_v_changes, Value.int IntKind.i64 x.info.les, Value.int IntKind.i64 x.info.head.epoch, Value.int IntKind.i64 x.info.head.n, Value.int IntKind.i64 x.info.tail.epoch, Value.int IntKind.i64 x.info.tail.n, Value.int IntKind.i64 x.info.born, Value.int IntKind.i64 x.state.les, Value.int IntKind.i64 x.state.tail.epoch, Value.int IntKind.i64 x.state.tail.n, Value.slice a_v_state_log x.state.log.length c_v_state_log, Value.slice a_v_state_lasts x.state.lasts.length c_v_state_lasts, Value.slice a_v_state_items x.state.items.length c_v_state_items, Value.int IntKind.i64 x.entry.version.epoch, Value.int IntKind.i64 x.entry.version.n, Value.bool x.entry.remove, Value.int IntKind.i64 x.entry.errno, Value.string x.entry.name, Value.int IntKind.i64 x.entry.client, Value.int IntKind.i64 x.entry.number, Value.string x.object.name, Value.int IntKind.i64 x.object.version.epoch, Value.int IntKind.i64 x.object.version.n, Value.slice a_v_object_data x.object.data.length c_v_object_data, Value.int IntKind.i64 x.op.kind, Value.string x.op.name, Value.slice a_v_op_data x.op.data.length c_v_op_data, Value.int IntKind.i64 x.op.expect.epoch, Value.int IntKind.i64 x.op.expect.n, Value.slice a_v_items x.items.length c_v_items, Value.slice a_v_names x.names.length c_v_names, Value.int IntKind.i64 x.errno] 48) := (hG21.old _ (lt_in x20) (fun hh => S20.own.ne x20 (by decide) _ hh rfl)).trans x20
              have z43 : w21.cell? ⟨w.heap.size, 43, none⟩ = some (Value.slice a_v_items x.items.length c_v_items) := cell_in x21
              have lx := lt_in x21
              go_wp2
              clear z43 lx
              go_loopw [127, 0] (fun i o w' => ∃ (k : Nat) (L : List UInt8) (gL : Option Nat), k ≤ x.items.length ∧ i = .int .i64 k ∧ Out w w' o out g (([] ++ encI x.kind ++ x.src.enc ++ x.dst.enc ++ encI x.boot ++ encI x.epoch ++ x.pg.enc ++ encI x.client ++ encI x.number ++ encI x.ballot ++ leB 4 x.slots.length ++ x.slots.flatMap SlotT.enc ++ leB 4 x.incs.length ++ x.incs.flatMap IncT.enc ++ leB 4 x.changes.length ++ x.changes.flatMap ChangeT.enc ++ x.info.enc ++ x.state.enc ++ x.entry.enc ++ x.object.enc ++ x.op.enc ++ leB 4 x.items.length) ++ (x.items.take k).flatMap ItemT.enc) L gL ∧ w'.heap[w.heap.size]? = some (Obj.cells #[Value.int IntKind.i64 x.kind, Value.int IntKind.i64 x.src.kind, Value.int IntKind.i64 x.src.id, Value.int IntKind.i64 x.dst.kind, Value.int IntKind.i64 x.dst.id, Value.int IntKind.i64 x.boot, Value.int IntKind.i64 x.epoch, Value.int IntKind.i64 x.pg.pool, Value.int IntKind.i64 x.pg.seed, Value.int IntKind.i64 x.client, Value.int IntKind.i64 x.number, Value.int IntKind.i64 x.ballot, Value.slice a_v_slots x.slots.length c_v_slots, Value.slice a_v_incs x.incs.length c_v_incs, Value.slice a_v_changes x.changes.length c_v_changes, Value.int IntKind.i64 x.info.les, Value.int IntKind.i64 x.info.head.epoch, Value.int IntKind.i64 x.info.head.n, Value.int IntKind.i64 x.info.tail.epoch, Value.int IntKind.i64 x.info.tail.n, Value.int IntKind.i64 x.info.born, Value.int IntKind.i64 x.state.les, Value.int IntKind.i64 x.state.tail.epoch, Value.int IntKind.i64 x.state.tail.n, Value.slice a_v_state_log x.state.log.length c_v_state_log, Value.slice a_v_state_lasts x.state.lasts.length c_v_state_lasts, Value.slice a_v_state_items x.state.items.length c_v_state_items, Value.int IntKind.i64 x.entry.version.epoch, Value.int IntKind.i64 x.entry.version.n, Value.bool x.entry.remove, Value.int IntKind.i64 x.entry.errno, Value.string x.entry.name, Value.int IntKind.i64 x.entry.client, Value.int IntKind.i64 x.entry.number, Value.string x.object.name, Value.int IntKind.i64 x.object.version.epoch, Value.int IntKind.i64 x.object.version.n, Value.slice a_v_object_data x.object.data.length c_v_object_data, Value.int IntKind.i64 x.op.kind, Value.string x.op.name, Value.slice a_v_op_data x.op.data.length c_v_op_data, Value.int IntKind.i64 x.op.expect.epoch, Value.int IntKind.i64 x.op.expect.n, Value.slice a_v_items x.items.length c_v_items, Value.slice a_v_names x.names.length c_v_names, Value.int IntKind.i64 x.errno] 48)) (fun i _ _ => x.items.length - (intOf i).toNat)
              case atStart => exact ⟨0, L21, g21, by omega, rfl, S21.cast (by simp), x21⟩
              case round =>
                obtain ⟨k, L, gL, hk, rfl, SL, xl⟩ := hrel
                by_cases hk2 : k < x.items.length
                · have hki : (k : Int) < (x.items.length : Int) := by omega
                  have hnl : x.items.length ≤ 9223372036854775807 := l8.small
                  have hd := SL.data hS
                  obtain ⟨b, off, cs, rfl, hb, hcl, hcell, hr⟩ := (l8.heap (fun _ _ h => ItemT.Is.heap h) (fun _ h => h) hd).at hk2
                  have hfl := flatMap_le ItemT.enc x.items (k + 1)
                  have hft := flatMap_take ItemT.enc x.items k hk2
                  rw [hft, List.length_append] at hfl
                  obtain ⟨e, he⟩ : ∃ e, e = x.items[k] := ⟨_, rfl⟩
                  rw [← he] at hr hft hfl
                  have HFT := Lib.hid hft
                  clear hft he hcl
                  obtain ⟨aL, cL, rfl, -, -⟩ := SL.own.shape
                  have hr0 := hr
                  obtain ⟨rfl, j0, j1, j2⟩ := hr
                  have y0 : wr.cell? ⟨b, off + k * 4, none⟩ = some (Value.string e.name) := hcell 0 (by omega)
                  have y1 : wr.cell? ⟨b, off + k * 4 + 1, none⟩ = some (Value.int IntKind.i64 e.version.epoch) := hcell 1 (by omega)
                  have y2 : wr.cell? ⟨b, off + k * 4 + 2, none⟩ = some (Value.int IntKind.i64 e.version.n) := hcell 2 (by omega)
                  have y3 : wr.cell? ⟨b, off + k * 4 + 3, none⟩ = some (Value.int IntKind.u32 (e.crc : Nat)) := hcell 3 (by omega)
                  go_wp2_with fail
                  have SA := SL.alloc (Obj.cells #[Value.string e.name, Value.int IntKind.i64 e.version.epoch, Value.int IntKind.i64 e.version.n, Value.int IntKind.u32 (e.crc : Nat)] 175)
                  have xa : (wr.alloc (Obj.cells #[Value.string e.name, Value.int IntKind.i64 e.version.epoch, Value.int IntKind.i64 e.version.n, Value.int IntKind.u32 (e.crc : Nat)] 175)).heap[w.heap.size]? = _ := (Below.heap_alloc _ _ _ (lt_in xl)).trans xl
                  generalize wr.alloc (Obj.cells #[Value.string e.name, Value.int IntKind.i64 e.version.epoch, Value.int IntKind.i64 e.version.n, Value.int IntKind.u32 (e.crc : Nat)] 175) = wa at SA xa ⊢
                  refine (putItem_c SA.own e ⟨j0, j1, j2⟩ (by have := SL.len; simp only [List.length_append, List.length_nil, encI_length, bB_length, leB_length, encT_length, encBy_length] at this hm hfl; omega)).mono ?_
                  rintro _ w9 ⟨v9, rfl, hG⟩
                  obtain ⟨L9, g9, S9⟩ := SA.then hG
                  have xl9 : w9.heap[w.heap.size]? = _ := (hG.old _ (lt_in xa) (fun hh => SA.own.ne xa (by decide) _ hh rfl)).trans xa
                  obtain ⟨a9, c9, rfl, -, -⟩ := S9.own.shape
                  have X9 := Lib.hid xl9
                  have HS9 := Lib.hid (S9.cast (more' := ([] ++ encI x.kind ++ x.src.enc ++ x.dst.enc ++ encI x.boot ++ encI x.epoch ++ x.pg.enc ++ encI x.client ++ encI x.number ++ encI x.ballot ++ leB 4 x.slots.length ++ x.slots.flatMap SlotT.enc ++ leB 4 x.incs.length ++ x.incs.flatMap IncT.enc ++ leB 4 x.changes.length ++ x.changes.flatMap ChangeT.enc ++ x.info.enc ++ x.state.enc ++ x.entry.enc ++ x.object.enc ++ x.op.enc ++ leB 4 x.items.length) ++ (x.items.take (k + 1)).flatMap ItemT.enc) (by rw [HFT.out, List.append_assoc]))
                  clear xl9 S9 hG
                  go_wp2
                  exact ⟨⟨k + 1, L9, g9, by omega, by simp, HS9.out, X9.out⟩, by simp [intOf]; omega⟩
                · obtain rfl : k = x.items.length := by omega
                  have S22 : Out w wr _ out g (([] ++ encI x.kind ++ x.src.enc ++ x.dst.enc ++ encI x.boot ++ encI x.epoch ++ x.pg.enc ++ encI x.client ++ encI x.number ++ encI x.ballot ++ leB 4 x.slots.length ++ x.slots.flatMap SlotT.enc ++ leB 4 x.incs.length ++ x.incs.flatMap IncT.enc ++ leB 4 x.changes.length ++ x.changes.flatMap ChangeT.enc ++ x.info.enc ++ x.state.enc ++ x.entry.enc ++ x.object.enc ++ x.op.enc ++ leB 4 x.items.length) ++ x.items.flatMap ItemT.enc) L gL := SL.cast (by rw [List.take_length])
                  obtain ⟨a22, c22, rfl, -, -⟩ := S22.own.shape
                  have x22 := xl
                  rename World => w22
                  clear SL xl
                  have z44 : w22.cell? ⟨w.heap.size, 44, none⟩ = some (Value.slice a_v_names x.names.length c_v_names) := cell_in x22
                  have lx := lt_in x22
                  go_wp2_with fail
                  clear z44 lx
                  refine (countRef_c S22.own x.names.length (by have := S22.len; simp only [List.length_append, List.length_nil, encI_length, bB_length, leB_length, encT_length, encBy_length] at this hm; omega)).mono ?_
                  rintro e w23 ⟨v23, rfl, hG23⟩
                  obtain ⟨L23, g23, S23⟩ := S22.then hG23
                  obtain ⟨a23, c23, rfl, -, -⟩ := S23.own.shape
                  have x23 : w23.heap[w.heap.size]? = some (Obj.cells #[Value.int IntKind.i64 x.kind, Value.int IntKind.i64 x.src.kind, Value.int IntKind.i64 x.src.id, Value.int IntKind.i64 x.dst.kind, Value.int IntKind.i64 x.dst.id, Value.int IntKind.i64 x.boot, Value.int IntKind.i64 x.epoch, Value.int IntKind.i64 x.pg.pool, Value.int IntKind.i64 x.pg.seed, Value.int IntKind.i64 x.client, Value.int IntKind.i64 x.number, Value.int IntKind.i64 x.ballot, Value.slice a_v_slots x.slots.length c_v_slots, Value.slice a_v_incs x.incs.length c_v_incs, Value.slice a_v_changes x.changes.length c_v_changes, Value.int IntKind.i64 x.info.les, Value.int IntKind.i64 x.info.head.epoch, Value.int IntKind.i64 x.info.head.n, Value.int IntKind.i64 x.info.tail.epoch, Value.int IntKind.i64 x.info.tail.n, Value.int IntKind.i64 x.info.born, Value.int IntKind.i64 x.state.les, Value.int IntKind.i64 x.state.tail.epoch, Value.int IntKind.i64 x.state.tail.n, Value.slice a_v_state_log x.state.log.length c_v_state_log, Value.slice a_v_state_lasts x.state.lasts.length c_v_state_lasts, Value.slice a_v_state_items x.state.items.length c_v_state_items, Value.int IntKind.i64 x.entry.version.epoch, Value.int IntKind.i64 x.entry.version.n, Value.bool x.entry.remove, Value.int IntKind.i64 x.entry.errno, Value.string x.entry.name, Value.int IntKind.i64 x.entry.client, Value.int IntKind.i64 x.entry.number, Value.string x.object.name, Value.int IntKind.i64 x.object.version.epoch, Value.int IntKind.i64 x.object.version.n, Value.slice a_v_object_data x.object.data.length c_v_object_data, Value.int IntKind.i64 x.op.kind, Value.string x.op.name, Value.slice a_v_op_data x.op.data.length c_v_op_data, Value.int IntKind.i64 x.op.expect.epoch, Value.int IntKind.i64 x.op.expect.n, Value.slice a_v_items x.items.length c_v_items, Value.slice a_v_names x.names.length c_v_names, Value.int IntKind.i64 x.errno] 48) := (hG23.old _ (lt_in x22) (fun hh => S22.own.ne x22 (by decide) _ hh rfl)).trans x22
                  have z44 : w23.cell? ⟨w.heap.size, 44, none⟩ = some (Value.slice a_v_names x.names.length c_v_names) := cell_in x23
                  have lx := lt_in x23
                  go_wp2
                  clear z44 lx
                  go_loopw [143, 0] (fun i o w' => ∃ (k : Nat) (L : List UInt8) (gL : Option Nat), k ≤ x.names.length ∧ i = .int .i64 k ∧ Out w w' o out g (([] ++ encI x.kind ++ x.src.enc ++ x.dst.enc ++ encI x.boot ++ encI x.epoch ++ x.pg.enc ++ encI x.client ++ encI x.number ++ encI x.ballot ++ leB 4 x.slots.length ++ x.slots.flatMap SlotT.enc ++ leB 4 x.incs.length ++ x.incs.flatMap IncT.enc ++ leB 4 x.changes.length ++ x.changes.flatMap ChangeT.enc ++ x.info.enc ++ x.state.enc ++ x.entry.enc ++ x.object.enc ++ x.op.enc ++ leB 4 x.items.length ++ x.items.flatMap ItemT.enc ++ leB 4 x.names.length) ++ (x.names.take k).flatMap encT) L gL ∧ w'.heap[w.heap.size]? = some (Obj.cells #[Value.int IntKind.i64 x.kind, Value.int IntKind.i64 x.src.kind, Value.int IntKind.i64 x.src.id, Value.int IntKind.i64 x.dst.kind, Value.int IntKind.i64 x.dst.id, Value.int IntKind.i64 x.boot, Value.int IntKind.i64 x.epoch, Value.int IntKind.i64 x.pg.pool, Value.int IntKind.i64 x.pg.seed, Value.int IntKind.i64 x.client, Value.int IntKind.i64 x.number, Value.int IntKind.i64 x.ballot, Value.slice a_v_slots x.slots.length c_v_slots, Value.slice a_v_incs x.incs.length c_v_incs, Value.slice a_v_changes x.changes.length c_v_changes, Value.int IntKind.i64 x.info.les, Value.int IntKind.i64 x.info.head.epoch, Value.int IntKind.i64 x.info.head.n, Value.int IntKind.i64 x.info.tail.epoch, Value.int IntKind.i64 x.info.tail.n, Value.int IntKind.i64 x.info.born, Value.int IntKind.i64 x.state.les, Value.int IntKind.i64 x.state.tail.epoch, Value.int IntKind.i64 x.state.tail.n, Value.slice a_v_state_log x.state.log.length c_v_state_log, Value.slice a_v_state_lasts x.state.lasts.length c_v_state_lasts, Value.slice a_v_state_items x.state.items.length c_v_state_items, Value.int IntKind.i64 x.entry.version.epoch, Value.int IntKind.i64 x.entry.version.n, Value.bool x.entry.remove, Value.int IntKind.i64 x.entry.errno, Value.string x.entry.name, Value.int IntKind.i64 x.entry.client, Value.int IntKind.i64 x.entry.number, Value.string x.object.name, Value.int IntKind.i64 x.object.version.epoch, Value.int IntKind.i64 x.object.version.n, Value.slice a_v_object_data x.object.data.length c_v_object_data, Value.int IntKind.i64 x.op.kind, Value.string x.op.name, Value.slice a_v_op_data x.op.data.length c_v_op_data, Value.int IntKind.i64 x.op.expect.epoch, Value.int IntKind.i64 x.op.expect.n, Value.slice a_v_items x.items.length c_v_items, Value.slice a_v_names x.names.length c_v_names, Value.int IntKind.i64 x.errno] 48)) (fun i _ _ => x.names.length - (intOf i).toNat)
                  case atStart => exact ⟨0, L23, g23, by omega, rfl, S23.cast (by simp), x23⟩
                  case round =>
                    obtain ⟨k, L, gL, hk, rfl, SL, xl⟩ := hrel
                    by_cases hk2 : k < x.names.length
                    · have hki : (k : Int) < (x.names.length : Int) := by omega
                      have hnl : x.names.length ≤ 9223372036854775807 := l9.small
                      have hd := SL.data hS
                      obtain ⟨b, off, cs, rfl, hb, hcl, hcell, hr⟩ := (l9.heap (fun _ _ h => textIs_stable _ _ _ _ _ _ h (fun _ h => h) hd) (fun _ h => h) hd).at hk2
                      have hfl := flatMap_le encT x.names (k + 1)
                      have hft := flatMap_take encT x.names k hk2
                      rw [hft, List.length_append] at hfl
                      obtain ⟨e, he⟩ : ∃ e, e = x.names[k] := ⟨_, rfl⟩
                      rw [← he] at hr hft hfl
                      have HFT := Lib.hid hft
                      clear hft he hcl
                      obtain ⟨aL, cL, rfl, -, -⟩ := SL.own.shape
                      obtain rfl := hr
                      have y0 := hcell 0 (by omega)
                      simp only [Nat.mul_one, Nat.add_zero, List.getElem?_cons_zero] at y0
                      have hcv := Go.Lib.run_convert_string_bytes (P := Tryz.prog) wr 9 41 5 e Tryz.underlying9 Tryz.underlying41 Tryz.underlying5
                      have hKB := bytesWorld_kept (fun _ => False) wr 5 e
                      have hRB := bytesWorld_reads wr 5 e (by unfold maxLen; simp only [List.length_append, List.length_nil, encI_length, bB_length, leB_length, encT_length, encBy_length] at hm hfl; omega)
                      generalize Go.Lib.bytesWorld wr 5 e = wb at hcv hKB hRB
                      obtain ⟨cap, hcap⟩ : ∃ cap, cap = grownCap wr e.size 0 5 := ⟨_, rfl⟩
                      rw [← hcap] at hcv hRB
                      clear hcap
                      have len : e.data.toList.length = e.size := by simp
                      go_wp2_with fail
                      have SA : Out w wb _ out g _ _ _ := ⟨SL.own.kept hKB (fun _ _ h => h), SL.eq, SL.kept.trans (hKB.mono (fun _ _ h => h.elim)), SL.new⟩
                      have xa := (hKB.block _ (lt_in xl) (fun h => h)).trans xl
                      have hne : ∀ k, some wr.heap.size = some k → gL ≠ some k := fun k hk hg => by
                        cases hk
                        exact absurd (SL.own.lt _ hg) (by omega)
                      rw [len] at hRB
                      clear hcv
                      refine (bytesRef_c (bs := e.data.toList) SA.own (by rw [len]; exact hRB) hne (by rw [len]; have := SL.len; simp only [List.length_append, List.length_nil, encI_length, bB_length, leB_length, encT_length, encBy_length] at this hm hfl; omega)).mono ?_
                      rw [len]
                      rintro _ w9 ⟨v9, rfl, hG⟩
                      obtain ⟨L9, g9, S9⟩ := SA.then hG
                      have xl9 : w9.heap[w.heap.size]? = _ := (hG.old _ (lt_in xa) (fun hh => SA.own.ne xa (by decide) _ hh rfl)).trans xa
                      obtain ⟨a9, c9, rfl, -, -⟩ := S9.own.shape
                      have X9 := Lib.hid xl9
                      have HS9 := Lib.hid (S9.cast (more' := ([] ++ encI x.kind ++ x.src.enc ++ x.dst.enc ++ encI x.boot ++ encI x.epoch ++ x.pg.enc ++ encI x.client ++ encI x.number ++ encI x.ballot ++ leB 4 x.slots.length ++ x.slots.flatMap SlotT.enc ++ leB 4 x.incs.length ++ x.incs.flatMap IncT.enc ++ leB 4 x.changes.length ++ x.changes.flatMap ChangeT.enc ++ x.info.enc ++ x.state.enc ++ x.entry.enc ++ x.object.enc ++ x.op.enc ++ leB 4 x.items.length ++ x.items.flatMap ItemT.enc ++ leB 4 x.names.length) ++ (x.names.take (k + 1)).flatMap encT) (by rw [HFT.out, List.append_assoc]; rfl))
                      clear xl9 S9 hG
                      go_wp2
                      exact ⟨⟨k + 1, L9, g9, by omega, by simp, HS9.out, X9.out⟩, by simp [intOf]; omega⟩
                    · obtain rfl : k = x.names.length := by omega
                      have S24 : Out w wr _ out g (([] ++ encI x.kind ++ x.src.enc ++ x.dst.enc ++ encI x.boot ++ encI x.epoch ++ x.pg.enc ++ encI x.client ++ encI x.number ++ encI x.ballot ++ leB 4 x.slots.length ++ x.slots.flatMap SlotT.enc ++ leB 4 x.incs.length ++ x.incs.flatMap IncT.enc ++ leB 4 x.changes.length ++ x.changes.flatMap ChangeT.enc ++ x.info.enc ++ x.state.enc ++ x.entry.enc ++ x.object.enc ++ x.op.enc ++ leB 4 x.items.length ++ x.items.flatMap ItemT.enc ++ leB 4 x.names.length) ++ x.names.flatMap encT) L gL := SL.cast (by rw [List.take_length])
                      obtain ⟨a24, c24, rfl, -, -⟩ := S24.own.shape
                      have x24 := xl
                      rename World => w24
                      clear SL xl
                      have z45 : w24.cell? ⟨w.heap.size, 45, none⟩ = some (Value.int IntKind.i64 x.errno) := cell_in x24
                      have lx := lt_in x24
                      go_wp2_with fail
                      clear z45 lx
                      refine (int_c S24.own x.errno (by have := S24.len; simp only [List.length_append, List.length_nil, encI_length, bB_length, leB_length, encT_length, encBy_length] at this hm; omega)).mono ?_
                      rintro e w25 ⟨v25, rfl, hG25⟩
                      obtain ⟨L25, g25, S25⟩ := S24.then hG25
                      obtain ⟨a25, c25, rfl, -, -⟩ := S25.own.shape
                      have x25 : w25.heap[w.heap.size]? = some (Obj.cells #[Value.int IntKind.i64 x.kind, Value.int IntKind.i64 x.src.kind, Value.int IntKind.i64 x.src.id, Value.int IntKind.i64 x.dst.kind, Value.int IntKind.i64 x.dst.id, Value.int IntKind.i64 x.boot, Value.int IntKind.i64 x.epoch, Value.int IntKind.i64 x.pg.pool, Value.int IntKind.i64 x.pg.seed, Value.int IntKind.i64 x.client, Value.int IntKind.i64 x.number, Value.int IntKind.i64 x.ballot, Value.slice a_v_slots x.slots.length c_v_slots, Value.slice a_v_incs x.incs.length c_v_incs, Value.slice a_v_changes x.changes.length c_v_changes, Value.int IntKind.i64 x.info.les, Value.int IntKind.i64 x.info.head.epoch, Value.int IntKind.i64 x.info.head.n, Value.int IntKind.i64 x.info.tail.epoch, Value.int IntKind.i64 x.info.tail.n, Value.int IntKind.i64 x.info.born, Value.int IntKind.i64 x.state.les, Value.int IntKind.i64 x.state.tail.epoch, Value.int IntKind.i64 x.state.tail.n, Value.slice a_v_state_log x.state.log.length c_v_state_log, Value.slice a_v_state_lasts x.state.lasts.length c_v_state_lasts, Value.slice a_v_state_items x.state.items.length c_v_state_items, Value.int IntKind.i64 x.entry.version.epoch, Value.int IntKind.i64 x.entry.version.n, Value.bool x.entry.remove, Value.int IntKind.i64 x.entry.errno, Value.string x.entry.name, Value.int IntKind.i64 x.entry.client, Value.int IntKind.i64 x.entry.number, Value.string x.object.name, Value.int IntKind.i64 x.object.version.epoch, Value.int IntKind.i64 x.object.version.n, Value.slice a_v_object_data x.object.data.length c_v_object_data, Value.int IntKind.i64 x.op.kind, Value.string x.op.name, Value.slice a_v_op_data x.op.data.length c_v_op_data, Value.int IntKind.i64 x.op.expect.epoch, Value.int IntKind.i64 x.op.expect.n, Value.slice a_v_items x.items.length c_v_items, Value.slice a_v_names x.names.length c_v_names, Value.int IntKind.i64 x.errno] 48) := (hG25.old _ (lt_in x24) (fun hh => S24.own.ne x24 (by decide) _ hh rfl)).trans x24
                      go_wp2
                      go_ret
                      exact ⟨_, rfl, S25.done⟩

end Go.Proofs.YtanmfldgillodaaGreat
