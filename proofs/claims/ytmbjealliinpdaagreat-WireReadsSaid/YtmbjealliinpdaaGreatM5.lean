/- Part 5 of the proof: Put3, Pr3, Dr4, Dr5, Rg3. -/
import Derived.Test.YtmbjealliinpdaaGreatM4
set_option linter.unusedSimpArgs false
set_option linter.unusedVariables false
set_option maxRecDepth 100000
set_option maxHeartbeats 16000000
section

namespace Go.Proofs.YtmbjealliinpdaaGreat
open Go.RowKit
structure NodeT where
  kind : Int
  id : Int
def NodeT.Is (w : World) (S : Nat → Prop) (cs : List Value) (x : NodeT) : Prop := cs = [Value.int IntKind.i64 x.kind, Value.int IntKind.i64 x.id] ∧ in64 x.kind ∧ in64 x.id
def NodeT.enc (x : NodeT) : List UInt8 := [] ++ encI x.kind ++ encI x.id
theorem NodeT.Is.heap {w w' : World} {S S' : Nat → Prop} {cs : List Value} {x : NodeT} (h : NodeT.Is w S cs x) : NodeT.Is w' S' cs x := h
theorem putNode_c {w : World} {v : Value} {out : List UInt8} {g : Option Nat} (h : Own w 5 1 v out.length (out.map bv) g) (x : NodeT) (hi : in64 x.kind ∧ in64 x.id) (hm : out.length + x.enc.length ≤ 140737488353500) :
    Calls Tryz.prog 91 #[v, .agg #[Value.int IntKind.i64 x.kind, Value.int IntKind.i64 x.id]] w fun e w' => ∃ v', e = .returned v' ∧ Grew w w' v' out g x.enc := by
  obtain ⟨i0, i1⟩ := hi
  simp only [NodeT.enc] at hm ⊢
  obtain ⟨a0, c0, rfl, -, -⟩ := h.shape
  go_enter Tryz.func91, Tryz.ntmps91
  go_wp2_with fail
  have x0 : (w.alloc (Obj.cells #[Value.int IntKind.i64 x.kind, Value.int IntKind.i64 x.id] 24)).heap[w.heap.size]? = some (Obj.cells #[Value.int IntKind.i64 x.kind, Value.int IntKind.i64 x.id] 24) := heap_alloc_new' _ _
  have S0 := (Out.start h).alloc (Obj.cells #[Value.int IntKind.i64 x.kind, Value.int IntKind.i64 x.id] 24)
  generalize w.alloc (Obj.cells #[Value.int IntKind.i64 x.kind, Value.int IntKind.i64 x.id] 24) = w0 at x0 S0 ⊢
  refine (int_c S0.own x.kind (by have := S0.len; simp only [List.length_append, List.length_nil, encI_length, bB_length, leB_length, encT_length, encBy_length] at this hm; omega)).mono ?_
  rintro e w1 ⟨v1, rfl, hG1⟩
  obtain ⟨L1, g1, S1⟩ := S0.then hG1
  obtain ⟨a1, c1, rfl, -, -⟩ := S1.own.shape
  have x1 : w1.heap[w.heap.size]? = some (Obj.cells #[Value.int IntKind.i64 x.kind, Value.int IntKind.i64 x.id] 24) := (hG1.old _ (lt_in x0) (fun hh => S0.own.ne x0 (by decide) _ hh rfl)).trans x0
  have z1 : w1.cell? ⟨w.heap.size, 1, none⟩ = some (Value.int IntKind.i64 x.id) := cell_in x1
  have lx := lt_in x1
  go_wp2_with fail
  clear z1 lx
  refine (int_c S1.own x.id (by have := S1.len; simp only [List.length_append, List.length_nil, encI_length, bB_length, leB_length, encT_length, encBy_length] at this hm; omega)).mono ?_
  rintro e w2 ⟨v2, rfl, hG2⟩
  obtain ⟨L2, g2, S2⟩ := S1.then hG2
  obtain ⟨a2, c2, rfl, -, -⟩ := S2.own.shape
  have x2 : w2.heap[w.heap.size]? = some (Obj.cells #[Value.int IntKind.i64 x.kind, Value.int IntKind.i64 x.id] 24) := (hG2.old _ (lt_in x1) (fun hh => S1.own.ne x1 (by decide) _ hh rfl)).trans x1
  go_wp2
  go_ret
  exact ⟨_, rfl, S2.done⟩
structure SlotT where
  slot : Int
  ballot : Int
  value : List UInt8
def SlotT.Is (w : World) (S : Nat → Prop) (cs : List Value) (x : SlotT) : Prop := ∃ v_value : Value, cs = [Value.int IntKind.i64 x.slot, Value.int IntKind.i64 x.ballot, v_value] ∧ in64 x.slot ∧ in64 x.ballot ∧ ListIs 1 byteIs w S v_value x.value
def SlotT.enc (x : SlotT) : List UInt8 := [] ++ encI x.slot ++ encI x.ballot ++ encBy x.value
theorem SlotT.Is.heap {w w' : World} {S S' : Nat → Prop} {cs : List Value} {x : SlotT} (h : SlotT.Is w S cs x) (hS : ∀ k, S k → S' k) (hk : ∀ k, S k → w'.heap[k]? = w.heap[k]?) : SlotT.Is w' S' cs x := by
  obtain ⟨v_value, rfl, i0, i1, l0⟩ := h
  exact ⟨v_value, rfl, i0, i1, l0.heap (fun _ _ h => byteIs_stable _ _ _ _ _ _ h hS hk) hS hk⟩
theorem putSlot_c {w : World} {v : Value} {out : List UInt8} {g : Option Nat} (h : Own w 5 1 v out.length (out.map bv) g) {S : Nat → Prop} (hS : ∀ k, S k → k < w.heap.size ∧ g ≠ some k) (x : SlotT) {cs : List Value} (hx : SlotT.Is w S cs x) (hm : out.length + x.enc.length ≤ 140737488353500) :
    Calls Tryz.prog 94 #[v, .agg cs.toArray] w fun e w' => ∃ v', e = .returned v' ∧ Grew w w' v' out g x.enc := by
  obtain ⟨v_value, rfl, i0, i1, l0⟩ := hx
  obtain ⟨a_v_value, c_v_value, rfl, -⟩ := l0.shape
  simp only [SlotT.enc] at hm ⊢
  obtain ⟨a0, c0, rfl, -, -⟩ := h.shape
  go_enter Tryz.func94, Tryz.ntmps94
  go_wp2_with fail
  have x0 : (w.alloc (Obj.cells #[Value.int IntKind.i64 x.slot, Value.int IntKind.i64 x.ballot, Value.slice a_v_value x.value.length c_v_value] 149)).heap[w.heap.size]? = some (Obj.cells #[Value.int IntKind.i64 x.slot, Value.int IntKind.i64 x.ballot, Value.slice a_v_value x.value.length c_v_value] 149) := heap_alloc_new' _ _
  have S0 := (Out.start h).alloc (Obj.cells #[Value.int IntKind.i64 x.slot, Value.int IntKind.i64 x.ballot, Value.slice a_v_value x.value.length c_v_value] 149)
  generalize w.alloc (Obj.cells #[Value.int IntKind.i64 x.slot, Value.int IntKind.i64 x.ballot, Value.slice a_v_value x.value.length c_v_value] 149) = w0 at x0 S0 ⊢
  refine (int_c S0.own x.slot (by have := S0.len; simp only [List.length_append, List.length_nil, encI_length, bB_length, leB_length, encT_length, encBy_length] at this hm; omega)).mono ?_
  rintro e w1 ⟨v1, rfl, hG1⟩
  obtain ⟨L1, g1, S1⟩ := S0.then hG1
  obtain ⟨a1, c1, rfl, -, -⟩ := S1.own.shape
  have x1 : w1.heap[w.heap.size]? = some (Obj.cells #[Value.int IntKind.i64 x.slot, Value.int IntKind.i64 x.ballot, Value.slice a_v_value x.value.length c_v_value] 149) := (hG1.old _ (lt_in x0) (fun hh => S0.own.ne x0 (by decide) _ hh rfl)).trans x0
  have z1 : w1.cell? ⟨w.heap.size, 1, none⟩ = some (Value.int IntKind.i64 x.ballot) := cell_in x1
  have lx := lt_in x1
  go_wp2_with fail
  clear z1 lx
  refine (int_c S1.own x.ballot (by have := S1.len; simp only [List.length_append, List.length_nil, encI_length, bB_length, leB_length, encT_length, encBy_length] at this hm; omega)).mono ?_
  rintro e w2 ⟨v2, rfl, hG2⟩
  obtain ⟨L2, g2, S2⟩ := S1.then hG2
  obtain ⟨a2, c2, rfl, -, -⟩ := S2.own.shape
  have x2 : w2.heap[w.heap.size]? = some (Obj.cells #[Value.int IntKind.i64 x.slot, Value.int IntKind.i64 x.ballot, Value.slice a_v_value x.value.length c_v_value] 149) := (hG2.old _ (lt_in x1) (fun hh => S1.own.ne x1 (by decide) _ hh rfl)).trans x1
  have z2 : w2.cell? ⟨w.heap.size, 2, none⟩ = some (Value.slice a_v_value x.value.length c_v_value) := cell_in x2
  have lx := lt_in x2
  go_wp2_with fail
  clear z2 lx
  have hd2 := S2.data hS
  obtain ⟨gb2, rb2, hb2⟩ := (l0.heap (fun _ _ h => byteIs_stable _ _ _ _ _ _ h (fun _ h => h) hd2) (fun _ h => h) hd2).reads
  refine (bytesRef_c S2.own rb2 (fun k hk hh => by have hk' := hS k (hb2 k hk); rcases S2.new k hh with h' | h'; exact hk'.2 h'; exact absurd hk'.1 (by omega)) (by have := S2.len; simp only [List.length_append, List.length_nil, encI_length, bB_length, leB_length, encT_length, encBy_length] at this hm; omega)).mono ?_
  rintro e w3 ⟨v3, rfl, hG3⟩
  obtain ⟨L3, g3, S3⟩ := S2.then hG3
  obtain ⟨a3, c3, rfl, -, -⟩ := S3.own.shape
  have x3 : w3.heap[w.heap.size]? = some (Obj.cells #[Value.int IntKind.i64 x.slot, Value.int IntKind.i64 x.ballot, Value.slice a_v_value x.value.length c_v_value] 149) := (hG3.old _ (lt_in x2) (fun hh => S2.own.ne x2 (by decide) _ hh rfl)).trans x2
  go_wp2
  go_ret
  exact ⟨_, rfl, S3.done⟩
structure ObjectT where
  name : ByteArray
  version : VersionT
  data : List UInt8
def ObjectT.Is (w : World) (S : Nat → Prop) (cs : List Value) (x : ObjectT) : Prop := ∃ v_data : Value, cs = [Value.string x.name, Value.int IntKind.i64 x.version.epoch, Value.int IntKind.i64 x.version.n, v_data] ∧ in64 x.version.epoch ∧ in64 x.version.n ∧ ListIs 1 byteIs w S v_data x.data
def ObjectT.enc (x : ObjectT) : List UInt8 := [] ++ encT x.name ++ x.version.enc ++ encBy x.data
theorem ObjectT.Is.heap {w w' : World} {S S' : Nat → Prop} {cs : List Value} {x : ObjectT} (h : ObjectT.Is w S cs x) (hS : ∀ k, S k → S' k) (hk : ∀ k, S k → w'.heap[k]? = w.heap[k]?) : ObjectT.Is w' S' cs x := by
  obtain ⟨v_data, rfl, i0, i1, l0⟩ := h
  exact ⟨v_data, rfl, i0, i1, l0.heap (fun _ _ h => byteIs_stable _ _ _ _ _ _ h hS hk) hS hk⟩
theorem putObject_c {w : World} {v : Value} {out : List UInt8} {g : Option Nat} (h : Own w 5 1 v out.length (out.map bv) g) {S : Nat → Prop} (hS : ∀ k, S k → k < w.heap.size ∧ g ≠ some k) (x : ObjectT) {cs : List Value} (hx : ObjectT.Is w S cs x) (hm : out.length + x.enc.length ≤ 140737488353500) :
    Calls Tryz.prog 98 #[v, .agg cs.toArray] w fun e w' => ∃ v', e = .returned v' ∧ Grew w w' v' out g x.enc := by
  obtain ⟨v_data, rfl, i0, i1, l0⟩ := hx
  obtain ⟨a_v_data, c_v_data, rfl, -⟩ := l0.shape
  simp only [ObjectT.enc] at hm ⊢
  obtain ⟨a0, c0, rfl, -, -⟩ := h.shape
  go_enter Tryz.func98, Tryz.ntmps98
  go_wp2_with fail
  have x0 : (w.alloc (Obj.cells #[Value.string x.name, Value.int IntKind.i64 x.version.epoch, Value.int IntKind.i64 x.version.n, Value.slice a_v_data x.data.length c_v_data] 43)).heap[w.heap.size]? = some (Obj.cells #[Value.string x.name, Value.int IntKind.i64 x.version.epoch, Value.int IntKind.i64 x.version.n, Value.slice a_v_data x.data.length c_v_data] 43) := heap_alloc_new' _ _
  have S0 := (Out.start h).alloc (Obj.cells #[Value.string x.name, Value.int IntKind.i64 x.version.epoch, Value.int IntKind.i64 x.version.n, Value.slice a_v_data x.data.length c_v_data] 43)
  generalize w.alloc (Obj.cells #[Value.string x.name, Value.int IntKind.i64 x.version.epoch, Value.int IntKind.i64 x.version.n, Value.slice a_v_data x.data.length c_v_data] 43) = w0 at x0 S0 ⊢
  have z0 : w0.cell? ⟨w.heap.size, 0, none⟩ = some (Value.string x.name) := cell_in x0
  have lx := lt_in x0
  have hcv0 := Go.Lib.run_convert_string_bytes (P := Tryz.prog) w0 9 22 5 x.name Tryz.underlying9 Tryz.underlying22 Tryz.underlying5
  have hKB0 := bytesWorld_kept (fun _ => False) w0 5 x.name
  have hRB0 := bytesWorld_reads w0 5 x.name (by unfold maxLen; simp only [List.length_append, List.length_nil, encI_length, bB_length, leB_length, encT_length, encBy_length] at hm; omega)
  generalize Go.Lib.bytesWorld w0 5 x.name = wb0 at hcv0 hKB0 hRB0
  obtain ⟨cap0, hcap0⟩ : ∃ cap, cap = grownCap w0 x.name.size 0 5 := ⟨_, rfl⟩
  rw [← hcap0] at hcv0 hRB0
  clear hcap0
  rw [hcv0]
  go_simp
  go_wp2_with fail
  have T0 : Out w wb0 _ out g _ _ _ := ⟨S0.own.kept hKB0 (fun _ _ h => h), S0.eq, S0.kept.trans (hKB0.mono (fun _ _ h => h.elim)), S0.new⟩
  have t0 := (hKB0.block _ (lt_in x0) (fun h => h)).trans x0
  have n0 : ∀ k, some w0.heap.size = some k → (g) ≠ some k := fun k hk hg => by
    cases hk
    exact absurd (S0.own.lt _ hg) (by omega)
  have len0 : x.name.data.toList.length = x.name.size := by simp
  have R0 : Reads wb0 1 _ x.name.data.toList.length _ _ := hRB0
  rw [len0] at hRB0
  clear hcv0
  clear z0 lx
  refine (bytesRef_c (bs := x.name.data.toList) T0.own (by rw [len0]; exact hRB0) n0 (by rw [len0]; have := S0.len; simp only [List.length_append, List.length_nil, encI_length, bB_length, leB_length, encT_length, encBy_length] at this hm; omega)).mono ?_
  rw [len0]
  rintro e w1 ⟨v1, rfl, hG1⟩
  obtain ⟨L1, g1, S1⟩ := T0.then hG1
  obtain ⟨a1, c1, rfl, -, -⟩ := S1.own.shape
  have x1 : w1.heap[w.heap.size]? = some (Obj.cells #[Value.string x.name, Value.int IntKind.i64 x.version.epoch, Value.int IntKind.i64 x.version.n, Value.slice a_v_data x.data.length c_v_data] 43) := (hG1.old _ (lt_in t0) (fun hh => T0.own.ne t0 (by decide) _ hh rfl)).trans t0
  have z1 : w1.cell? ⟨w.heap.size, 1, none⟩ = some (Value.int IntKind.i64 x.version.epoch) := cell_in x1
  have z2 : w1.cell? ⟨w.heap.size, 2, none⟩ = some (Value.int IntKind.i64 x.version.n) := cell_in x1
  have lx := lt_in x1
  go_wp2_with fail
  clear z1 z2 lx
  refine (putVersion_c S1.own x.version ⟨i0, i1⟩ (by have := S1.len; simp only [List.length_append, List.length_nil, encI_length, bB_length, leB_length, encT_length, encBy_length] at this hm; simp only [VersionT.enc, List.length_append, List.length_nil, encI_length, bB_length, leB_length, encT_length, encBy_length] at this hm ⊢; omega)).mono ?_
  rintro e w2 ⟨v2, rfl, hG2⟩
  obtain ⟨L2, g2, S2⟩ := S1.then hG2
  obtain ⟨a2, c2, rfl, -, -⟩ := S2.own.shape
  have x2 : w2.heap[w.heap.size]? = some (Obj.cells #[Value.string x.name, Value.int IntKind.i64 x.version.epoch, Value.int IntKind.i64 x.version.n, Value.slice a_v_data x.data.length c_v_data] 43) := (hG2.old _ (lt_in x1) (fun hh => S1.own.ne x1 (by decide) _ hh rfl)).trans x1
  have z3 : w2.cell? ⟨w.heap.size, 3, none⟩ = some (Value.slice a_v_data x.data.length c_v_data) := cell_in x2
  have lx := lt_in x2
  go_wp2_with fail
  clear z3 lx
  have hd2 := S2.data hS
  obtain ⟨gb2, rb2, hb2⟩ := (l0.heap (fun _ _ h => byteIs_stable _ _ _ _ _ _ h (fun _ h => h) hd2) (fun _ h => h) hd2).reads
  refine (bytesRef_c S2.own rb2 (fun k hk hh => by have hk' := hS k (hb2 k hk); rcases S2.new k hh with h' | h'; exact hk'.2 h'; exact absurd hk'.1 (by omega)) (by have := S2.len; simp only [List.length_append, List.length_nil, encI_length, bB_length, leB_length, encT_length, encBy_length] at this hm; omega)).mono ?_
  rintro e w3 ⟨v3, rfl, hG3⟩
  obtain ⟨L3, g3, S3⟩ := S2.then hG3
  obtain ⟨a3, c3, rfl, -, -⟩ := S3.own.shape
  have x3 : w3.heap[w.heap.size]? = some (Obj.cells #[Value.string x.name, Value.int IntKind.i64 x.version.epoch, Value.int IntKind.i64 x.version.n, Value.slice a_v_data x.data.length c_v_data] 43) := (hG3.old _ (lt_in x2) (fun hh => S2.own.ne x2 (by decide) _ hh rfl)).trans x2
  go_wp2
  go_ret
  exact ⟨_, rfl, S3.done⟩
structure InfoT where
  les : Int
  head : VersionT
  tail : VersionT
  born : Int
def InfoT.Is (w : World) (S : Nat → Prop) (cs : List Value) (x : InfoT) : Prop := cs = [Value.int IntKind.i64 x.les, Value.int IntKind.i64 x.head.epoch, Value.int IntKind.i64 x.head.n, Value.int IntKind.i64 x.tail.epoch, Value.int IntKind.i64 x.tail.n, Value.int IntKind.i64 x.born] ∧ in64 x.les ∧ in64 x.head.epoch ∧ in64 x.head.n ∧ in64 x.tail.epoch ∧ in64 x.tail.n ∧ in64 x.born
def InfoT.enc (x : InfoT) : List UInt8 := [] ++ encI x.les ++ x.head.enc ++ x.tail.enc ++ encI x.born
theorem InfoT.Is.heap {w w' : World} {S S' : Nat → Prop} {cs : List Value} {x : InfoT} (h : InfoT.Is w S cs x) : InfoT.Is w' S' cs x := h
theorem putInfo_c {w : World} {v : Value} {out : List UInt8} {g : Option Nat} (h : Own w 5 1 v out.length (out.map bv) g) (x : InfoT) (hi : in64 x.les ∧ in64 x.head.epoch ∧ in64 x.head.n ∧ in64 x.tail.epoch ∧ in64 x.tail.n ∧ in64 x.born) (hm : out.length + x.enc.length ≤ 140737488353500) :
    Calls Tryz.prog 96 #[v, .agg #[Value.int IntKind.i64 x.les, Value.int IntKind.i64 x.head.epoch, Value.int IntKind.i64 x.head.n, Value.int IntKind.i64 x.tail.epoch, Value.int IntKind.i64 x.tail.n, Value.int IntKind.i64 x.born]] w fun e w' => ∃ v', e = .returned v' ∧ Grew w w' v' out g x.enc := by
  obtain ⟨i0, i1, i2, i3, i4, i5⟩ := hi
  simp only [InfoT.enc] at hm ⊢
  obtain ⟨a0, c0, rfl, -, -⟩ := h.shape
  go_enter Tryz.func96, Tryz.ntmps96
  go_wp2_with fail
  have x0 : (w.alloc (Obj.cells #[Value.int IntKind.i64 x.les, Value.int IntKind.i64 x.head.epoch, Value.int IntKind.i64 x.head.n, Value.int IntKind.i64 x.tail.epoch, Value.int IntKind.i64 x.tail.n, Value.int IntKind.i64 x.born] 33)).heap[w.heap.size]? = some (Obj.cells #[Value.int IntKind.i64 x.les, Value.int IntKind.i64 x.head.epoch, Value.int IntKind.i64 x.head.n, Value.int IntKind.i64 x.tail.epoch, Value.int IntKind.i64 x.tail.n, Value.int IntKind.i64 x.born] 33) := heap_alloc_new' _ _
  have S0 := (Out.start h).alloc (Obj.cells #[Value.int IntKind.i64 x.les, Value.int IntKind.i64 x.head.epoch, Value.int IntKind.i64 x.head.n, Value.int IntKind.i64 x.tail.epoch, Value.int IntKind.i64 x.tail.n, Value.int IntKind.i64 x.born] 33)
  generalize w.alloc (Obj.cells #[Value.int IntKind.i64 x.les, Value.int IntKind.i64 x.head.epoch, Value.int IntKind.i64 x.head.n, Value.int IntKind.i64 x.tail.epoch, Value.int IntKind.i64 x.tail.n, Value.int IntKind.i64 x.born] 33) = w0 at x0 S0 ⊢
  refine (int_c S0.own x.les (by have := S0.len; simp only [List.length_append, List.length_nil, encI_length, bB_length, leB_length, encT_length, encBy_length] at this hm; omega)).mono ?_
  rintro e w1 ⟨v1, rfl, hG1⟩
  obtain ⟨L1, g1, S1⟩ := S0.then hG1
  obtain ⟨a1, c1, rfl, -, -⟩ := S1.own.shape
  have x1 : w1.heap[w.heap.size]? = some (Obj.cells #[Value.int IntKind.i64 x.les, Value.int IntKind.i64 x.head.epoch, Value.int IntKind.i64 x.head.n, Value.int IntKind.i64 x.tail.epoch, Value.int IntKind.i64 x.tail.n, Value.int IntKind.i64 x.born] 33) := (hG1.old _ (lt_in x0) (fun hh => S0.own.ne x0 (by decide) _ hh rfl)).trans x0
  have z1 : w1.cell? ⟨w.heap.size, 1, none⟩ = some (Value.int IntKind.i64 x.head.epoch) := cell_in x1
  have z2 : w1.cell? ⟨w.heap.size, 2, none⟩ = some (Value.int IntKind.i64 x.head.n) := cell_in x1
  have lx := lt_in x1
  go_wp2_with fail
  clear z1 z2 lx
  refine (putVersion_c S1.own x.head ⟨i1, i2⟩ (by have := S1.len; simp only [List.length_append, List.length_nil, encI_length, bB_length, leB_length, encT_length, encBy_length] at this hm; simp only [VersionT.enc, List.length_append, List.length_nil, encI_length, bB_length, leB_length, encT_length, encBy_length] at this hm ⊢; omega)).mono ?_
  rintro e w2 ⟨v2, rfl, hG2⟩
  obtain ⟨L2, g2, S2⟩ := S1.then hG2
  obtain ⟨a2, c2, rfl, -, -⟩ := S2.own.shape
  have x2 : w2.heap[w.heap.size]? = some (Obj.cells #[Value.int IntKind.i64 x.les, Value.int IntKind.i64 x.head.epoch, Value.int IntKind.i64 x.head.n, Value.int IntKind.i64 x.tail.epoch, Value.int IntKind.i64 x.tail.n, Value.int IntKind.i64 x.born] 33) := (hG2.old _ (lt_in x1) (fun hh => S1.own.ne x1 (by decide) _ hh rfl)).trans x1
  have z3 : w2.cell? ⟨w.heap.size, 3, none⟩ = some (Value.int IntKind.i64 x.tail.epoch) := cell_in x2
  have z4 : w2.cell? ⟨w.heap.size, 4, none⟩ = some (Value.int IntKind.i64 x.tail.n) := cell_in x2
  have lx := lt_in x2
  go_wp2_with fail
  clear z3 z4 lx
  refine (putVersion_c S2.own x.tail ⟨i3, i4⟩ (by have := S2.len; simp only [List.length_append, List.length_nil, encI_length, bB_length, leB_length, encT_length, encBy_length] at this hm; simp only [VersionT.enc, List.length_append, List.length_nil, encI_length, bB_length, leB_length, encT_length, encBy_length] at this hm ⊢; omega)).mono ?_
  rintro e w3 ⟨v3, rfl, hG3⟩
  obtain ⟨L3, g3, S3⟩ := S2.then hG3
  obtain ⟨a3, c3, rfl, -, -⟩ := S3.own.shape
  have x3 : w3.heap[w.heap.size]? = some (Obj.cells #[Value.int IntKind.i64 x.les, Value.int IntKind.i64 x.head.epoch, Value.int IntKind.i64 x.head.n, Value.int IntKind.i64 x.tail.epoch, Value.int IntKind.i64 x.tail.n, Value.int IntKind.i64 x.born] 33) := (hG3.old _ (lt_in x2) (fun hh => S2.own.ne x2 (by decide) _ hh rfl)).trans x2
  have z5 : w3.cell? ⟨w.heap.size, 5, none⟩ = some (Value.int IntKind.i64 x.born) := cell_in x3
  have lx := lt_in x3
  go_wp2_with fail
  clear z5 lx
  refine (int_c S3.own x.born (by have := S3.len; simp only [List.length_append, List.length_nil, encI_length, bB_length, leB_length, encT_length, encBy_length] at this hm; omega)).mono ?_
  rintro e w4 ⟨v4, rfl, hG4⟩
  obtain ⟨L4, g4, S4⟩ := S3.then hG4
  obtain ⟨a4, c4, rfl, -, -⟩ := S4.own.shape
  have x4 : w4.heap[w.heap.size]? = some (Obj.cells #[Value.int IntKind.i64 x.les, Value.int IntKind.i64 x.head.epoch, Value.int IntKind.i64 x.head.n, Value.int IntKind.i64 x.tail.epoch, Value.int IntKind.i64 x.tail.n, Value.int IntKind.i64 x.born] 33) := (hG4.old _ (lt_in x3) (fun hh => S3.own.ne x3 (by decide) _ hh rfl)).trans x3
  go_wp2
  go_ret
  exact ⟨_, rfl, S4.done⟩
structure OpT where
  kind : Int
  name : ByteArray
  data : List UInt8
  expect : VersionT
def OpT.Is (w : World) (S : Nat → Prop) (cs : List Value) (x : OpT) : Prop := ∃ v_data : Value, cs = [Value.int IntKind.i64 x.kind, Value.string x.name, v_data, Value.int IntKind.i64 x.expect.epoch, Value.int IntKind.i64 x.expect.n] ∧ in64 x.kind ∧ in64 x.expect.epoch ∧ in64 x.expect.n ∧ ListIs 1 byteIs w S v_data x.data
def OpT.enc (x : OpT) : List UInt8 := [] ++ encI x.kind ++ encT x.name ++ encBy x.data ++ x.expect.enc
theorem OpT.Is.heap {w w' : World} {S S' : Nat → Prop} {cs : List Value} {x : OpT} (h : OpT.Is w S cs x) (hS : ∀ k, S k → S' k) (hk : ∀ k, S k → w'.heap[k]? = w.heap[k]?) : OpT.Is w' S' cs x := by
  obtain ⟨v_data, rfl, i0, i1, i2, l0⟩ := h
  exact ⟨v_data, rfl, i0, i1, i2, l0.heap (fun _ _ h => byteIs_stable _ _ _ _ _ _ h hS hk) hS hk⟩
theorem putOp_c {w : World} {v : Value} {out : List UInt8} {g : Option Nat} (h : Own w 5 1 v out.length (out.map bv) g) {S : Nat → Prop} (hS : ∀ k, S k → k < w.heap.size ∧ g ≠ some k) (x : OpT) {cs : List Value} (hx : OpT.Is w S cs x) (hm : out.length + x.enc.length ≤ 140737488353500) :
    Calls Tryz.prog 99 #[v, .agg cs.toArray] w fun e w' => ∃ v', e = .returned v' ∧ Grew w w' v' out g x.enc := by
  obtain ⟨v_data, rfl, i0, i1, i2, l0⟩ := hx
  obtain ⟨a_v_data, c_v_data, rfl, -⟩ := l0.shape
  simp only [OpT.enc] at hm ⊢
  obtain ⟨a0, c0, rfl, -, -⟩ := h.shape
  go_enter Tryz.func99, Tryz.ntmps99
  go_wp2_with fail
  have x0 : (w.alloc (Obj.cells #[Value.int IntKind.i64 x.kind, Value.string x.name, Value.slice a_v_data x.data.length c_v_data, Value.int IntKind.i64 x.expect.epoch, Value.int IntKind.i64 x.expect.n] 45)).heap[w.heap.size]? = some (Obj.cells #[Value.int IntKind.i64 x.kind, Value.string x.name, Value.slice a_v_data x.data.length c_v_data, Value.int IntKind.i64 x.expect.epoch, Value.int IntKind.i64 x.expect.n] 45) := heap_alloc_new' _ _
  have S0 := (Out.start h).alloc (Obj.cells #[Value.int IntKind.i64 x.kind, Value.string x.name, Value.slice a_v_data x.data.length c_v_data, Value.int IntKind.i64 x.expect.epoch, Value.int IntKind.i64 x.expect.n] 45)
  generalize w.alloc (Obj.cells #[Value.int IntKind.i64 x.kind, Value.string x.name, Value.slice a_v_data x.data.length c_v_data, Value.int IntKind.i64 x.expect.epoch, Value.int IntKind.i64 x.expect.n] 45) = w0 at x0 S0 ⊢
  refine (int_c S0.own x.kind (by have := S0.len; simp only [List.length_append, List.length_nil, encI_length, bB_length, leB_length, encT_length, encBy_length] at this hm; omega)).mono ?_
  rintro e w1 ⟨v1, rfl, hG1⟩
  obtain ⟨L1, g1, S1⟩ := S0.then hG1
  obtain ⟨a1, c1, rfl, -, -⟩ := S1.own.shape
  have x1 : w1.heap[w.heap.size]? = some (Obj.cells #[Value.int IntKind.i64 x.kind, Value.string x.name, Value.slice a_v_data x.data.length c_v_data, Value.int IntKind.i64 x.expect.epoch, Value.int IntKind.i64 x.expect.n] 45) := (hG1.old _ (lt_in x0) (fun hh => S0.own.ne x0 (by decide) _ hh rfl)).trans x0
  have z1 : w1.cell? ⟨w.heap.size, 1, none⟩ = some (Value.string x.name) := cell_in x1
  have lx := lt_in x1
  have hcv1 := Go.Lib.run_convert_string_bytes (P := Tryz.prog) w1 9 22 5 x.name Tryz.underlying9 Tryz.underlying22 Tryz.underlying5
  have hKB1 := bytesWorld_kept (fun _ => False) w1 5 x.name
  have hRB1 := bytesWorld_reads w1 5 x.name (by unfold maxLen; simp only [List.length_append, List.length_nil, encI_length, bB_length, leB_length, encT_length, encBy_length] at hm; omega)
  generalize Go.Lib.bytesWorld w1 5 x.name = wb1 at hcv1 hKB1 hRB1
  obtain ⟨cap1, hcap1⟩ : ∃ cap, cap = grownCap w1 x.name.size 0 5 := ⟨_, rfl⟩
  rw [← hcap1] at hcv1 hRB1
  clear hcap1
  go_wp2_with fail
  have T1 : Out w wb1 _ out g _ _ _ := ⟨S1.own.kept hKB1 (fun _ _ h => h), S1.eq, S1.kept.trans (hKB1.mono (fun _ _ h => h.elim)), S1.new⟩
  have t1 := (hKB1.block _ (lt_in x1) (fun h => h)).trans x1
  have n1 : ∀ k, some w1.heap.size = some k → (g1) ≠ some k := fun k hk hg => by
    cases hk
    exact absurd (S1.own.lt _ hg) (by omega)
  have len1 : x.name.data.toList.length = x.name.size := by simp
  have R1 : Reads wb1 1 _ x.name.data.toList.length _ _ := hRB1
  rw [len1] at hRB1
  clear hcv1
  clear z1 lx
  refine (bytesRef_c (bs := x.name.data.toList) T1.own (by rw [len1]; exact hRB1) n1 (by rw [len1]; have := S1.len; simp only [List.length_append, List.length_nil, encI_length, bB_length, leB_length, encT_length, encBy_length] at this hm; omega)).mono ?_
  rw [len1]
  rintro e w2 ⟨v2, rfl, hG2⟩
  obtain ⟨L2, g2, S2⟩ := T1.then hG2
  obtain ⟨a2, c2, rfl, -, -⟩ := S2.own.shape
  have x2 : w2.heap[w.heap.size]? = some (Obj.cells #[Value.int IntKind.i64 x.kind, Value.string x.name, Value.slice a_v_data x.data.length c_v_data, Value.int IntKind.i64 x.expect.epoch, Value.int IntKind.i64 x.expect.n] 45) := (hG2.old _ (lt_in t1) (fun hh => T1.own.ne t1 (by decide) _ hh rfl)).trans t1
  have z2 : w2.cell? ⟨w.heap.size, 2, none⟩ = some (Value.slice a_v_data x.data.length c_v_data) := cell_in x2
  have lx := lt_in x2
  go_wp2_with fail
  clear z2 lx
  have hd2 := S2.data hS
  obtain ⟨gb2, rb2, hb2⟩ := (l0.heap (fun _ _ h => byteIs_stable _ _ _ _ _ _ h (fun _ h => h) hd2) (fun _ h => h) hd2).reads
  refine (bytesRef_c S2.own rb2 (fun k hk hh => by have hk' := hS k (hb2 k hk); rcases S2.new k hh with h' | h'; exact hk'.2 h'; exact absurd hk'.1 (by omega)) (by have := S2.len; simp only [List.length_append, List.length_nil, encI_length, bB_length, leB_length, encT_length, encBy_length] at this hm; omega)).mono ?_
  rintro e w3 ⟨v3, rfl, hG3⟩
  obtain ⟨L3, g3, S3⟩ := S2.then hG3
  obtain ⟨a3, c3, rfl, -, -⟩ := S3.own.shape
  have x3 : w3.heap[w.heap.size]? = some (Obj.cells #[Value.int IntKind.i64 x.kind, Value.string x.name, Value.slice a_v_data x.data.length c_v_data, Value.int IntKind.i64 x.expect.epoch, Value.int IntKind.i64 x.expect.n] 45) := (hG3.old _ (lt_in x2) (fun hh => S2.own.ne x2 (by decide) _ hh rfl)).trans x2
  have z3 : w3.cell? ⟨w.heap.size, 3, none⟩ = some (Value.int IntKind.i64 x.expect.epoch) := cell_in x3
  have z4 : w3.cell? ⟨w.heap.size, 4, none⟩ = some (Value.int IntKind.i64 x.expect.n) := cell_in x3
  have lx := lt_in x3
  go_wp2_with fail
  clear z3 z4 lx
  refine (putVersion_c S3.own x.expect ⟨i1, i2⟩ (by have := S3.len; simp only [List.length_append, List.length_nil, encI_length, bB_length, leB_length, encT_length, encBy_length] at this hm; simp only [VersionT.enc, List.length_append, List.length_nil, encI_length, bB_length, leB_length, encT_length, encBy_length] at this hm ⊢; omega)).mono ?_
  rintro e w4 ⟨v4, rfl, hG4⟩
  obtain ⟨L4, g4, S4⟩ := S3.then hG4
  obtain ⟨a4, c4, rfl, -, -⟩ := S4.own.shape
  have x4 : w4.heap[w.heap.size]? = some (Obj.cells #[Value.int IntKind.i64 x.kind, Value.string x.name, Value.slice a_v_data x.data.length c_v_data, Value.int IntKind.i64 x.expect.epoch, Value.int IntKind.i64 x.expect.n] 45) := (hG4.old _ (lt_in x3) (fun hh => S3.own.ne x3 (by decide) _ hh rfl)).trans x3
  go_wp2
  go_ret
  exact ⟨_, rfl, S4.done⟩
structure MsgT where
  kind : Int
  src : NodeT
  dst : NodeT
  boot : Int
  epoch : Int
  pg : PgT
  client : Int
  number : Int
  ballot : Int
  slots : List SlotT
  incs : List IncT
  changes : List ChangeT
  info : InfoT
  state : StateT
  entry : EntryT
  object : ObjectT
  op : OpT
  items : List ItemT
  names : List ByteArray
  errno : Int
def MsgT.Is (w : World) (S : Nat → Prop) (cs : List Value) (x : MsgT) : Prop := ∃ v_slots v_incs v_changes v_state_log v_state_lasts v_state_items v_object_data v_op_data v_items v_names : Value, cs = [Value.int IntKind.i64 x.kind, Value.int IntKind.i64 x.src.kind, Value.int IntKind.i64 x.src.id, Value.int IntKind.i64 x.dst.kind, Value.int IntKind.i64 x.dst.id, Value.int IntKind.i64 x.boot, Value.int IntKind.i64 x.epoch, Value.int IntKind.i64 x.pg.pool, Value.int IntKind.i64 x.pg.seed, Value.int IntKind.i64 x.client, Value.int IntKind.i64 x.number, Value.int IntKind.i64 x.ballot, v_slots, v_incs, v_changes, Value.int IntKind.i64 x.info.les, Value.int IntKind.i64 x.info.head.epoch, Value.int IntKind.i64 x.info.head.n, Value.int IntKind.i64 x.info.tail.epoch, Value.int IntKind.i64 x.info.tail.n, Value.int IntKind.i64 x.info.born, Value.int IntKind.i64 x.state.les, Value.int IntKind.i64 x.state.tail.epoch, Value.int IntKind.i64 x.state.tail.n, v_state_log, v_state_lasts, v_state_items, Value.int IntKind.i64 x.entry.version.epoch, Value.int IntKind.i64 x.entry.version.n, Value.bool x.entry.remove, Value.int IntKind.i64 x.entry.errno, Value.string x.entry.name, Value.int IntKind.i64 x.entry.client, Value.int IntKind.i64 x.entry.number, Value.string x.object.name, Value.int IntKind.i64 x.object.version.epoch, Value.int IntKind.i64 x.object.version.n, v_object_data, Value.int IntKind.i64 x.op.kind, Value.string x.op.name, v_op_data, Value.int IntKind.i64 x.op.expect.epoch, Value.int IntKind.i64 x.op.expect.n, v_items, v_names, Value.int IntKind.i64 x.errno] ∧ in64 x.kind ∧ in64 x.src.kind ∧ in64 x.src.id ∧ in64 x.dst.kind ∧ in64 x.dst.id ∧ in64 x.boot ∧ in64 x.epoch ∧ in64 x.pg.pool ∧ in64 x.pg.seed ∧ in64 x.client ∧ in64 x.number ∧ in64 x.ballot ∧ in64 x.info.les ∧ in64 x.info.head.epoch ∧ in64 x.info.head.n ∧ in64 x.info.tail.epoch ∧ in64 x.info.tail.n ∧ in64 x.info.born ∧ in64 x.state.les ∧ in64 x.state.tail.epoch ∧ in64 x.state.tail.n ∧ in64 x.entry.version.epoch ∧ in64 x.entry.version.n ∧ in64 x.entry.errno ∧ in64 x.entry.client ∧ in64 x.entry.number ∧ in64 x.object.version.epoch ∧ in64 x.object.version.n ∧ in64 x.op.kind ∧ in64 x.op.expect.epoch ∧ in64 x.op.expect.n ∧ in64 x.errno ∧ ListIs 3 SlotT.Is w S v_slots x.slots ∧ ListIs 2 IncT.Is w S v_incs x.incs ∧ ListIs 11 ChangeT.Is w S v_changes x.changes ∧ ListIs 7 EntryT.Is w S v_state_log x.state.log ∧ ListIs 5 LastT.Is w S v_state_lasts x.state.lasts ∧ ListIs 4 ItemT.Is w S v_state_items x.state.items ∧ ListIs 1 byteIs w S v_object_data x.object.data ∧ ListIs 1 byteIs w S v_op_data x.op.data ∧ ListIs 4 ItemT.Is w S v_items x.items ∧ ListIs 1 textIs w S v_names x.names
def MsgT.enc (x : MsgT) : List UInt8 := [] ++ encI x.kind ++ x.src.enc ++ x.dst.enc ++ encI x.boot ++ encI x.epoch ++ x.pg.enc ++ encI x.client ++ encI x.number ++ encI x.ballot ++ leB 4 x.slots.length ++ x.slots.flatMap SlotT.enc ++ leB 4 x.incs.length ++ x.incs.flatMap IncT.enc ++ leB 4 x.changes.length ++ x.changes.flatMap ChangeT.enc ++ x.info.enc ++ x.state.enc ++ x.entry.enc ++ x.object.enc ++ x.op.enc ++ leB 4 x.items.length ++ x.items.flatMap ItemT.enc ++ leB 4 x.names.length ++ x.names.flatMap encT ++ encI x.errno
theorem MsgT.Is.heap {w w' : World} {S S' : Nat → Prop} {cs : List Value} {x : MsgT} (h : MsgT.Is w S cs x) (hS : ∀ k, S k → S' k) (hk : ∀ k, S k → w'.heap[k]? = w.heap[k]?) : MsgT.Is w' S' cs x := by
  obtain ⟨v_slots, v_incs, v_changes, v_state_log, v_state_lasts, v_state_items, v_object_data, v_op_data, v_items, v_names, rfl, i0, i1, i2, i3, i4, i5, i6, i7, i8, i9, i10, i11, i12, i13, i14, i15, i16, i17, i18, i19, i20, i21, i22, i23, i24, i25, i26, i27, i28, i29, i30, i31, l0, l1, l2, l3, l4, l5, l6, l7, l8, l9⟩ := h
  exact ⟨v_slots, v_incs, v_changes, v_state_log, v_state_lasts, v_state_items, v_object_data, v_op_data, v_items, v_names, rfl, i0, i1, i2, i3, i4, i5, i6, i7, i8, i9, i10, i11, i12, i13, i14, i15, i16, i17, i18, i19, i20, i21, i22, i23, i24, i25, i26, i27, i28, i29, i30, i31, l0.heap (fun _ _ h => SlotT.Is.heap h hS hk) hS hk, l1.heap (fun _ _ h => IncT.Is.heap h hS hk) hS hk, l2.heap (fun _ _ h => ChangeT.Is.heap h hS hk) hS hk, l3.heap (fun _ _ h => EntryT.Is.heap h) hS hk, l4.heap (fun _ _ h => LastT.Is.heap h) hS hk, l5.heap (fun _ _ h => ItemT.Is.heap h) hS hk, l6.heap (fun _ _ h => byteIs_stable _ _ _ _ _ _ h hS hk) hS hk, l7.heap (fun _ _ h => byteIs_stable _ _ _ _ _ _ h hS hk) hS hk, l8.heap (fun _ _ h => ItemT.Is.heap h) hS hk, l9.heap (fun _ _ h => textIs_stable _ _ _ _ _ _ h hS hk) hS hk⟩
theorem putMsg_c {w : World} {v : Value} {out : List UInt8} {g : Option Nat} (h : Own w 5 1 v out.length (out.map bv) g) {S : Nat → Prop} (hS : ∀ k, S k → k < w.heap.size ∧ g ≠ some k) (x : MsgT) {cs : List Value} (hx : MsgT.Is w S cs x) (hm : out.length + x.enc.length ≤ 140737488353500) :
    Calls Tryz.prog 34 #[v, .agg cs.toArray] w fun e w' => ∃ v', e = .returned v' ∧ Grew w w' v' out g x.enc := by
  obtain ⟨v_slots, v_incs, v_changes, v_state_log, v_state_lasts, v_state_items, v_object_data, v_op_data, v_items, v_names, rfl, i0, i1, i2, i3, i4, i5, i6, i7, i8, i9, i10, i11, i12, i13, i14, i15, i16, i17, i18, i19, i20, i21, i22, i23, i24, i25, i26, i27, i28, i29, i30, i31, l0, l1, l2, l3, l4, l5, l6, l7, l8, l9⟩ := hx
  have sh0 := l0.shape
  have sh1 := l1.shape
  have sh2 := l2.shape
  have sh3 := l3.shape
  have sh4 := l4.shape
  have sh5 := l5.shape
  have sh6 := l6.shape
  have sh7 := l7.shape
  have sh8 := l8.shape
  have sh9 := l9.shape
  obtain ⟨a_v_slots, c_v_slots, eh0, qh0⟩ := sh0
  clear qh0
  obtain ⟨a_v_incs, c_v_incs, eh1, qh1⟩ := sh1
  clear qh1
  obtain ⟨a_v_changes, c_v_changes, eh2, qh2⟩ := sh2
  clear qh2
  obtain ⟨a_v_state_log, c_v_state_log, eh3, qh3⟩ := sh3
  clear qh3
  obtain ⟨a_v_state_lasts, c_v_state_lasts, eh4, qh4⟩ := sh4
  clear qh4
  obtain ⟨a_v_state_items, c_v_state_items, eh5, qh5⟩ := sh5
  clear qh5
  obtain ⟨a_v_object_data, c_v_object_data, eh6, qh6⟩ := sh6
  clear qh6
  obtain ⟨a_v_op_data, c_v_op_data, eh7, qh7⟩ := sh7
  clear qh7
  obtain ⟨a_v_items, c_v_items, eh8, qh8⟩ := sh8
  clear qh8
  obtain ⟨a_v_names, c_v_names, eh9, qh9⟩ := sh9
  clear qh9
  subst eh0 eh1 eh2 eh3 eh4 eh5 eh6 eh7 eh8 eh9
  unfold MsgT.enc at hm ⊢
  obtain ⟨a0, c0, rfl, -, -⟩ := h.shape
  go_enter Tryz.func34, Tryz.ntmps34
  go_wp2_with fail
  have x0 : (w.alloc (Obj.cells #[Value.int IntKind.i64 x.kind, Value.int IntKind.i64 x.src.kind, Value.int IntKind.i64 x.src.id, Value.int IntKind.i64 x.dst.kind, Value.int IntKind.i64 x.dst.id, Value.int IntKind.i64 x.boot, Value.int IntKind.i64 x.epoch, Value.int IntKind.i64 x.pg.pool, Value.int IntKind.i64 x.pg.seed, Value.int IntKind.i64 x.client, Value.int IntKind.i64 x.number, Value.int IntKind.i64 x.ballot, Value.slice a_v_slots x.slots.length c_v_slots, Value.slice a_v_incs x.incs.length c_v_incs, Value.slice a_v_changes x.changes.length c_v_changes, Value.int IntKind.i64 x.info.les, Value.int IntKind.i64 x.info.head.epoch, Value.int IntKind.i64 x.info.head.n, Value.int IntKind.i64 x.info.tail.epoch, Value.int IntKind.i64 x.info.tail.n, Value.int IntKind.i64 x.info.born, Value.int IntKind.i64 x.state.les, Value.int IntKind.i64 x.state.tail.epoch, Value.int IntKind.i64 x.state.tail.n, Value.slice a_v_state_log x.state.log.length c_v_state_log, Value.slice a_v_state_lasts x.state.lasts.length c_v_state_lasts, Value.slice a_v_state_items x.state.items.length c_v_state_items, Value.int IntKind.i64 x.entry.version.epoch, Value.int IntKind.i64 x.entry.version.n, Value.bool x.entry.remove, Value.int IntKind.i64 x.entry.errno, Value.string x.entry.name, Value.int IntKind.i64 x.entry.client, Value.int IntKind.i64 x.entry.number, Value.string x.object.name, Value.int IntKind.i64 x.object.version.epoch, Value.int IntKind.i64 x.object.version.n, Value.slice a_v_object_data x.object.data.length c_v_object_data, Value.int IntKind.i64 x.op.kind, Value.string x.op.name, Value.slice a_v_op_data x.op.data.length c_v_op_data, Value.int IntKind.i64 x.op.expect.epoch, Value.int IntKind.i64 x.op.expect.n, Value.slice a_v_items x.items.length c_v_items, Value.slice a_v_names x.names.length c_v_names, Value.int IntKind.i64 x.errno] 48)).heap[w.heap.size]? = some (Obj.cells #[Value.int IntKind.i64 x.kind, Value.int IntKind.i64 x.src.kind, Value.int IntKind.i64 x.src.id, Value.int IntKind.i64 x.dst.kind, Value.int IntKind.i64 x.dst.id, Value.int IntKind.i64 x.boot, Value.int IntKind.i64 x.epoch, Value.int IntKind.i64 x.pg.pool, Value.int IntKind.i64 x.pg.seed, Value.int IntKind.i64 x.client, Value.int IntKind.i64 x.number, Value.int IntKind.i64 x.ballot, Value.slice a_v_slots x.slots.length c_v_slots, Value.slice a_v_incs x.incs.length c_v_incs, Value.slice a_v_changes x.changes.length c_v_changes, Value.int IntKind.i64 x.info.les, Value.int IntKind.i64 x.info.head.epoch, Value.int IntKind.i64 x.info.head.n, Value.int IntKind.i64 x.info.tail.epoch, Value.int IntKind.i64 x.info.tail.n, Value.int IntKind.i64 x.info.born, Value.int IntKind.i64 x.state.les, Value.int IntKind.i64 x.state.tail.epoch, Value.int IntKind.i64 x.state.tail.n, Value.slice a_v_state_log x.state.log.length c_v_state_log, Value.slice a_v_state_lasts x.state.lasts.length c_v_state_lasts, Value.slice a_v_state_items x.state.items.length c_v_state_items, Value.int IntKind.i64 x.entry.version.epoch, Value.int IntKind.i64 x.entry.version.n, Value.bool x.entry.remove, Value.int IntKind.i64 x.entry.errno, Value.string x.entry.name, Value.int IntKind.i64 x.entry.client, Value.int IntKind.i64 x.entry.number, Value.string x.object.name, Value.int IntKind.i64 x.object.version.epoch, Value.int IntKind.i64 x.object.version.n, Value.slice a_v_object_data x.object.data.length c_v_object_data, Value.int IntKind.i64 x.op.kind, Value.string x.op.name, Value.slice a_v_op_data x.op.data.length c_v_op_data, Value.int IntKind.i64 x.op.expect.epoch, Value.int IntKind.i64 x.op.expect.n, Value.slice a_v_items x.items.length c_v_items, Value.slice a_v_names x.names.length c_v_names, Value.int IntKind.i64 x.errno] 48) := heap_alloc_new' _ _
  have S0 := (Out.start h).alloc (Obj.cells #[Value.int IntKind.i64 x.kind, Value.int IntKind.i64 x.src.kind, Value.int IntKind.i64 x.src.id, Value.int IntKind.i64 x.dst.kind, Value.int IntKind.i64 x.dst.id, Value.int IntKind.i64 x.boot, Value.int IntKind.i64 x.epoch, Value.int IntKind.i64 x.pg.pool, Value.int IntKind.i64 x.pg.seed, Value.int IntKind.i64 x.client, Value.int IntKind.i64 x.number, Value.int IntKind.i64 x.ballot, Value.slice a_v_slots x.slots.length c_v_slots, Value.slice a_v_incs x.incs.length c_v_incs, Value.slice a_v_changes x.changes.length c_v_changes, Value.int IntKind.i64 x.info.les, Value.int IntKind.i64 x.info.head.epoch, Value.int IntKind.i64 x.info.head.n, Value.int IntKind.i64 x.info.tail.epoch, Value.int IntKind.i64 x.info.tail.n, Value.int IntKind.i64 x.info.born, Value.int IntKind.i64 x.state.les, Value.int IntKind.i64 x.state.tail.epoch, Value.int IntKind.i64 x.state.tail.n, Value.slice a_v_state_log x.state.log.length c_v_state_log, Value.slice a_v_state_lasts x.state.lasts.length c_v_state_lasts, Value.slice a_v_state_items x.state.items.length c_v_state_items, Value.int IntKind.i64 x.entry.version.epoch, Value.int IntKind.i64 x.entry.version.n, Value.bool x.entry.remove, Value.int IntKind.i64 x.entry.errno, Value.string x.entry.name, Value.int IntKind.i64 x.entry.client, Value.int IntKind.i64 x.entry.number, Value.string x.object.name, Value.int IntKind.i64 x.object.version.epoch, Value.int IntKind.i64 x.object.version.n, Value.slice a_v_object_data x.object.data.length c_v_object_data, Value.int IntKind.i64 x.op.kind, Value.string x.op.name, Value.slice a_v_op_data x.op.data.length c_v_op_data, Value.int IntKind.i64 x.op.expect.epoch, Value.int IntKind.i64 x.op.expect.n, Value.slice a_v_items x.items.length c_v_items, Value.slice a_v_names x.names.length c_v_names, Value.int IntKind.i64 x.errno] 48)
  generalize w.alloc (Obj.cells #[Value.int IntKind.i64 x.kind, Value.int IntKind.i64 x.src.kind, Value.int IntKind.i64 x.src.id, Value.int IntKind.i64 x.dst.kind, Value.int IntKind.i64 x.dst.id, Value.int IntKind.i64 x.boot, Value.int IntKind.i64 x.epoch, Value.int IntKind.i64 x.pg.pool, Value.int IntKind.i64 x.pg.seed, Value.int IntKind.i64 x.client, Value.int IntKind.i64 x.number, Value.int IntKind.i64 x.ballot, Value.slice a_v_slots x.slots.length c_v_slots, Value.slice a_v_incs x.incs.length c_v_incs, Value.slice a_v_changes x.changes.length c_v_changes, Value.int IntKind.i64 x.info.les, Value.int IntKind.i64 x.info.head.epoch, Value.int IntKind.i64 x.info.head.n, Value.int IntKind.i64 x.info.tail.epoch, Value.int IntKind.i64 x.info.tail.n, Value.int IntKind.i64 x.info.born, Value.int IntKind.i64 x.state.les, Value.int IntKind.i64 x.state.tail.epoch, Value.int IntKind.i64 x.state.tail.n, Value.slice a_v_state_log x.state.log.length c_v_state_log, Value.slice a_v_state_lasts x.state.lasts.length c_v_state_lasts, Value.slice a_v_state_items x.state.items.length c_v_state_items, Value.int IntKind.i64 x.entry.version.epoch, Value.int IntKind.i64 x.entry.version.n, Value.bool x.entry.remove, Value.int IntKind.i64 x.entry.errno, Value.string x.entry.name, Value.int IntKind.i64 x.entry.client, Value.int IntKind.i64 x.entry.number, Value.string x.object.name, Value.int IntKind.i64 x.object.version.epoch, Value.int IntKind.i64 x.object.version.n, Value.slice a_v_object_data x.object.data.length c_v_object_data, Value.int IntKind.i64 x.op.kind, Value.string x.op.name, Value.slice a_v_op_data x.op.data.length c_v_op_data, Value.int IntKind.i64 x.op.expect.epoch, Value.int IntKind.i64 x.op.expect.n, Value.slice a_v_items x.items.length c_v_items, Value.slice a_v_names x.names.length c_v_names, Value.int IntKind.i64 x.errno] 48) = w0 at x0 S0 ⊢
  refine (int_c S0.own x.kind (by have := S0.len; simp only [List.length_append, List.length_nil, encI_length, bB_length, leB_length, encT_length, encBy_length] at this hm; omega)).mono ?_
  rintro e w1 ⟨v1, rfl, hG1⟩
  obtain ⟨L1, g1, S1⟩ := S0.then hG1
  obtain ⟨a1, c1, rfl, -, -⟩ := S1.own.shape
  have x1 : w1.heap[w.heap.size]? = some (Obj.cells #[Value.int IntKind.i64 x.kind, Value.int IntKind.i64 x.src.kind, Value.int IntKind.i64 x.src.id, Value.int IntKind.i64 x.dst.kind, Value.int IntKind.i64 x.dst.id, Value.int IntKind.i64 x.boot, Value.int IntKind.i64 x.epoch, Value.int IntKind.i64 x.pg.pool, Value.int IntKind.i64 x.pg.seed, Value.int IntKind.i64 x.client, Value.int IntKind.i64 x.number, Value.int IntKind.i64 x.ballot, Value.slice a_v_slots x.slots.length c_v_slots, Value.slice a_v_incs x.incs.length c_v_incs, Value.slice a_v_changes x.changes.length c_v_changes, Value.int IntKind.i64 x.info.les, Value.int IntKind.i64 x.info.head.epoch, Value.int IntKind.i64 x.info.head.n, Value.int IntKind.i64 x.info.tail.epoch, Value.int IntKind.i64 x.info.tail.n, Value.int IntKind.i64 x.info.born, Value.int IntKind.i64 x.state.les, Value.int IntKind.i64 x.state.tail.epoch, Value.int IntKind.i64 x.state.tail.n, Value.slice a_v_state_log x.state.log.length c_v_state_log, Value.slice a_v_state_lasts x.state.lasts.length c_v_state_lasts, Value.slice a_v_state_items x.state.items.length c_v_state_items, Value.int IntKind.i64 x.entry.version.epoch, Value.int IntKind.i64 x.entry.version.n, Value.bool x.entry.remove, Value.int IntKind.i64 x.entry.errno, Value.string x.entry.name, Value.int IntKind.i64 x.entry.client, Value.int IntKind.i64 x.entry.number, Value.string x.object.name, Value.int IntKind.i64 x.object.version.epoch, Value.int IntKind.i64 x.object.version.n, Value.slice a_v_object_data x.object.data.length c_v_object_data, Value.int IntKind.i64 x.op.kind, Value.string x.op.name, Value.slice a_v_op_data x.op.data.length c_v_op_data, Value.int IntKind.i64 x.op.expect.epoch, Value.int IntKind.i64 x.op.expect.n, Value.slice a_v_items x.items.length c_v_items, Value.slice a_v_names x.names.length c_v_names, Value.int IntKind.i64 x.errno] 48) := (hG1.old _ (lt_in x0) (fun hh => S0.own.ne x0 (by decide) _ hh rfl)).trans x0
  have z1 : w1.cell? ⟨w.heap.size, 1, none⟩ = some (Value.int IntKind.i64 x.src.kind) := cell_in x1
  have z2 : w1.cell? ⟨w.heap.size, 2, none⟩ = some (Value.int IntKind.i64 x.src.id) := cell_in x1
  have lx := lt_in x1
  go_wp2_with fail
  clear z1 z2 lx
  refine (putNode_c S1.own x.src ⟨i1, i2⟩ (by have := S1.len; simp only [List.length_append, List.length_nil, encI_length, bB_length, leB_length, encT_length, encBy_length] at this hm; simp only [NodeT.enc, List.length_append, List.length_nil, encI_length, bB_length, leB_length, encT_length, encBy_length] at this hm ⊢; omega)).mono ?_
  rintro e w2 ⟨v2, rfl, hG2⟩
  obtain ⟨L2, g2, S2⟩ := S1.then hG2
  obtain ⟨a2, c2, rfl, -, -⟩ := S2.own.shape
  have x2 : w2.heap[w.heap.size]? = some (Obj.cells #[Value.int IntKind.i64 x.kind, Value.int IntKind.i64 x.src.kind, Value.int IntKind.i64 x.src.id, Value.int IntKind.i64 x.dst.kind, Value.int IntKind.i64 x.dst.id, Value.int IntKind.i64 x.boot, Value.int IntKind.i64 x.epoch, Value.int IntKind.i64 x.pg.pool, Value.int IntKind.i64 x.pg.seed, Value.int IntKind.i64 x.client, Value.int IntKind.i64 x.number, Value.int IntKind.i64 x.ballot, Value.slice a_v_slots x.slots.length c_v_slots, Value.slice a_v_incs x.incs.length c_v_incs, Value.slice a_v_changes x.changes.length c_v_changes, Value.int IntKind.i64 x.info.les, Value.int IntKind.i64 x.info.head.epoch, Value.int IntKind.i64 x.info.head.n, Value.int IntKind.i64 x.info.tail.epoch, Value.int IntKind.i64 x.info.tail.n, Value.int IntKind.i64 x.info.born, Value.int IntKind.i64 x.state.les, Value.int IntKind.i64 x.state.tail.epoch, Value.int IntKind.i64 x.state.tail.n, Value.slice a_v_state_log x.state.log.length c_v_state_log, Value.slice a_v_state_lasts x.state.lasts.length c_v_state_lasts, Value.slice a_v_state_items x.state.items.length c_v_state_items, Value.int IntKind.i64 x.entry.version.epoch, Value.int IntKind.i64 x.entry.version.n, Value.bool x.entry.remove, Value.int IntKind.i64 x.entry.errno, Value.string x.entry.name, Value.int IntKind.i64 x.entry.client, Value.int IntKind.i64 x.entry.number, Value.string x.object.name, Value.int IntKind.i64 x.object.version.epoch, Value.int IntKind.i64 x.object.version.n, Value.slice a_v_object_data x.object.data.length c_v_object_data, Value.int IntKind.i64 x.op.kind, Value.string x.op.name, Value.slice a_v_op_data x.op.data.length c_v_op_data, Value.int IntKind.i64 x.op.expect.epoch, Value.int IntKind.i64 x.op.expect.n, Value.slice a_v_items x.items.length c_v_items, Value.slice a_v_names x.names.length c_v_names, Value.int IntKind.i64 x.errno] 48) := (hG2.old _ (lt_in x1) (fun hh => S1.own.ne x1 (by decide) _ hh rfl)).trans x1
  have z3 : w2.cell? ⟨w.heap.size, 3, none⟩ = some (Value.int IntKind.i64 x.dst.kind) := cell_in x2
  have z4 : w2.cell? ⟨w.heap.size, 4, none⟩ = some (Value.int IntKind.i64 x.dst.id) := cell_in x2
  have lx := lt_in x2
  go_wp2_with fail
  clear z3 z4 lx
  refine (putNode_c S2.own x.dst ⟨i3, i4⟩ (by have := S2.len; simp only [List.length_append, List.length_nil, encI_length, bB_length, leB_length, encT_length, encBy_length] at this hm; simp only [NodeT.enc, List.length_append, List.length_nil, encI_length, bB_length, leB_length, encT_length, encBy_length] at this hm ⊢; omega)).mono ?_
  rintro e w3 ⟨v3, rfl, hG3⟩
  obtain ⟨L3, g3, S3⟩ := S2.then hG3
  obtain ⟨a3, c3, rfl, -, -⟩ := S3.own.shape
  have x3 : w3.heap[w.heap.size]? = some (Obj.cells #[Value.int IntKind.i64 x.kind, Value.int IntKind.i64 x.src.kind, Value.int IntKind.i64 x.src.id, Value.int IntKind.i64 x.dst.kind, Value.int IntKind.i64 x.dst.id, Value.int IntKind.i64 x.boot, Value.int IntKind.i64 x.epoch, Value.int IntKind.i64 x.pg.pool, Value.int IntKind.i64 x.pg.seed, Value.int IntKind.i64 x.client, Value.int IntKind.i64 x.number, Value.int IntKind.i64 x.ballot, Value.slice a_v_slots x.slots.length c_v_slots, Value.slice a_v_incs x.incs.length c_v_incs, Value.slice a_v_changes x.changes.length c_v_changes, Value.int IntKind.i64 x.info.les, Value.int IntKind.i64 x.info.head.epoch, Value.int IntKind.i64 x.info.head.n, Value.int IntKind.i64 x.info.tail.epoch, Value.int IntKind.i64 x.info.tail.n, Value.int IntKind.i64 x.info.born, Value.int IntKind.i64 x.state.les, Value.int IntKind.i64 x.state.tail.epoch, Value.int IntKind.i64 x.state.tail.n, Value.slice a_v_state_log x.state.log.length c_v_state_log, Value.slice a_v_state_lasts x.state.lasts.length c_v_state_lasts, Value.slice a_v_state_items x.state.items.length c_v_state_items, Value.int IntKind.i64 x.entry.version.epoch, Value.int IntKind.i64 x.entry.version.n, Value.bool x.entry.remove, Value.int IntKind.i64 x.entry.errno, Value.string x.entry.name, Value.int IntKind.i64 x.entry.client, Value.int IntKind.i64 x.entry.number, Value.string x.object.name, Value.int IntKind.i64 x.object.version.epoch, Value.int IntKind.i64 x.object.version.n, Value.slice a_v_object_data x.object.data.length c_v_object_data, Value.int IntKind.i64 x.op.kind, Value.string x.op.name, Value.slice a_v_op_data x.op.data.length c_v_op_data, Value.int IntKind.i64 x.op.expect.epoch, Value.int IntKind.i64 x.op.expect.n, Value.slice a_v_items x.items.length c_v_items, Value.slice a_v_names x.names.length c_v_names, Value.int IntKind.i64 x.errno] 48) := (hG3.old _ (lt_in x2) (fun hh => S2.own.ne x2 (by decide) _ hh rfl)).trans x2
  have z5 : w3.cell? ⟨w.heap.size, 5, none⟩ = some (Value.int IntKind.i64 x.boot) := cell_in x3
  have lx := lt_in x3
  go_wp2_with fail
  clear z5 lx
  refine (int_c S3.own x.boot (by have := S3.len; simp only [List.length_append, List.length_nil, encI_length, bB_length, leB_length, encT_length, encBy_length] at this hm; omega)).mono ?_
  rintro e w4 ⟨v4, rfl, hG4⟩
  obtain ⟨L4, g4, S4⟩ := S3.then hG4
  obtain ⟨a4, c4, rfl, -, -⟩ := S4.own.shape
  have x4 : w4.heap[w.heap.size]? = some (Obj.cells #[Value.int IntKind.i64 x.kind, Value.int IntKind.i64 x.src.kind, Value.int IntKind.i64 x.src.id, Value.int IntKind.i64 x.dst.kind, Value.int IntKind.i64 x.dst.id, Value.int IntKind.i64 x.boot, Value.int IntKind.i64 x.epoch, Value.int IntKind.i64 x.pg.pool, Value.int IntKind.i64 x.pg.seed, Value.int IntKind.i64 x.client, Value.int IntKind.i64 x.number, Value.int IntKind.i64 x.ballot, Value.slice a_v_slots x.slots.length c_v_slots, Value.slice a_v_incs x.incs.length c_v_incs, Value.slice a_v_changes x.changes.length c_v_changes, Value.int IntKind.i64 x.info.les, Value.int IntKind.i64 x.info.head.epoch, Value.int IntKind.i64 x.info.head.n, Value.int IntKind.i64 x.info.tail.epoch, Value.int IntKind.i64 x.info.tail.n, Value.int IntKind.i64 x.info.born, Value.int IntKind.i64 x.state.les, Value.int IntKind.i64 x.state.tail.epoch, Value.int IntKind.i64 x.state.tail.n, Value.slice a_v_state_log x.state.log.length c_v_state_log, Value.slice a_v_state_lasts x.state.lasts.length c_v_state_lasts, Value.slice a_v_state_items x.state.items.length c_v_state_items, Value.int IntKind.i64 x.entry.version.epoch, Value.int IntKind.i64 x.entry.version.n, Value.bool x.entry.remove, Value.int IntKind.i64 x.entry.errno, Value.string x.entry.name, Value.int IntKind.i64 x.entry.client, Value.int IntKind.i64 x.entry.number, Value.string x.object.name, Value.int IntKind.i64 x.object.version.epoch, Value.int IntKind.i64 x.object.version.n, Value.slice a_v_object_data x.object.data.length c_v_object_data, Value.int IntKind.i64 x.op.kind, Value.string x.op.name, Value.slice a_v_op_data x.op.data.length c_v_op_data, Value.int IntKind.i64 x.op.expect.epoch, Value.int IntKind.i64 x.op.expect.n, Value.slice a_v_items x.items.length c_v_items, Value.slice a_v_names x.names.length c_v_names, Value.int IntKind.i64 x.errno] 48) := (hG4.old _ (lt_in x3) (fun hh => S3.own.ne x3 (by decide) _ hh rfl)).trans x3
  have z6 : w4.cell? ⟨w.heap.size, 6, none⟩ = some (Value.int IntKind.i64 x.epoch) := cell_in x4
  have lx := lt_in x4
  go_wp2_with fail
  clear z6 lx
  refine (int_c S4.own x.epoch (by have := S4.len; simp only [List.length_append, List.length_nil, encI_length, bB_length, leB_length, encT_length, encBy_length] at this hm; omega)).mono ?_
  rintro e w5 ⟨v5, rfl, hG5⟩
  obtain ⟨L5, g5, S5⟩ := S4.then hG5
  obtain ⟨a5, c5, rfl, -, -⟩ := S5.own.shape
  have x5 : w5.heap[w.heap.size]? = some (Obj.cells #[Value.int IntKind.i64 x.kind, Value.int IntKind.i64 x.src.kind, Value.int IntKind.i64 x.src.id, Value.int IntKind.i64 x.dst.kind, Value.int IntKind.i64 x.dst.id, Value.int IntKind.i64 x.boot, Value.int IntKind.i64 x.epoch, Value.int IntKind.i64 x.pg.pool, Value.int IntKind.i64 x.pg.seed, Value.int IntKind.i64 x.client, Value.int IntKind.i64 x.number, Value.int IntKind.i64 x.ballot, Value.slice a_v_slots x.slots.length c_v_slots, Value.slice a_v_incs x.incs.length c_v_incs, Value.slice a_v_changes x.changes.length c_v_changes, Value.int IntKind.i64 x.info.les, Value.int IntKind.i64 x.info.head.epoch, Value.int IntKind.i64 x.info.head.n, Value.int IntKind.i64 x.info.tail.epoch, Value.int IntKind.i64 x.info.tail.n, Value.int IntKind.i64 x.info.born, Value.int IntKind.i64 x.state.les, Value.int IntKind.i64 x.state.tail.epoch, Value.int IntKind.i64 x.state.tail.n, Value.slice a_v_state_log x.state.log.length c_v_state_log, Value.slice a_v_state_lasts x.state.lasts.length c_v_state_lasts, Value.slice a_v_state_items x.state.items.length c_v_state_items, Value.int IntKind.i64 x.entry.version.epoch, Value.int IntKind.i64 x.entry.version.n, Value.bool x.entry.remove, Value.int IntKind.i64 x.entry.errno, Value.string x.entry.name, Value.int IntKind.i64 x.entry.client, Value.int IntKind.i64 x.entry.number, Value.string x.object.name, Value.int IntKind.i64 x.object.version.epoch, Value.int IntKind.i64 x.object.version.n, Value.slice a_v_object_data x.object.data.length c_v_object_data, Value.int IntKind.i64 x.op.kind, Value.string x.op.name, Value.slice a_v_op_data x.op.data.length c_v_op_data, Value.int IntKind.i64 x.op.expect.epoch, Value.int IntKind.i64 x.op.expect.n, Value.slice a_v_items x.items.length c_v_items, Value.slice a_v_names x.names.length c_v_names, Value.int IntKind.i64 x.errno] 48) := (hG5.old _ (lt_in x4) (fun hh => S4.own.ne x4 (by decide) _ hh rfl)).trans x4
  have z7 : w5.cell? ⟨w.heap.size, 7, none⟩ = some (Value.int IntKind.i64 x.pg.pool) := cell_in x5
  have z8 : w5.cell? ⟨w.heap.size, 8, none⟩ = some (Value.int IntKind.i64 x.pg.seed) := cell_in x5
  have lx := lt_in x5
  go_wp2_with fail
  clear z7 z8 lx
  refine (putPg_c S5.own x.pg ⟨i7, i8⟩ (by have := S5.len; simp only [List.length_append, List.length_nil, encI_length, bB_length, leB_length, encT_length, encBy_length] at this hm; simp only [PgT.enc, List.length_append, List.length_nil, encI_length, bB_length, leB_length, encT_length, encBy_length] at this hm ⊢; omega)).mono ?_
  rintro e w6 ⟨v6, rfl, hG6⟩
  obtain ⟨L6, g6, S6⟩ := S5.then hG6
  obtain ⟨a6, c6, rfl, -, -⟩ := S6.own.shape
  have x6 : w6.heap[w.heap.size]? = some (Obj.cells #[Value.int IntKind.i64 x.kind, Value.int IntKind.i64 x.src.kind, Value.int IntKind.i64 x.src.id, Value.int IntKind.i64 x.dst.kind, Value.int IntKind.i64 x.dst.id, Value.int IntKind.i64 x.boot, Value.int IntKind.i64 x.epoch, Value.int IntKind.i64 x.pg.pool, Value.int IntKind.i64 x.pg.seed, Value.int IntKind.i64 x.client, Value.int IntKind.i64 x.number, Value.int IntKind.i64 x.ballot, Value.slice a_v_slots x.slots.length c_v_slots, Value.slice a_v_incs x.incs.length c_v_incs, Value.slice a_v_changes x.changes.length c_v_changes, Value.int IntKind.i64 x.info.les, Value.int IntKind.i64 x.info.head.epoch, Value.int IntKind.i64 x.info.head.n, Value.int IntKind.i64 x.info.tail.epoch, Value.int IntKind.i64 x.info.tail.n, Value.int IntKind.i64 x.info.born, Value.int IntKind.i64 x.state.les, Value.int IntKind.i64 x.state.tail.epoch, Value.int IntKind.i64 x.state.tail.n, Value.slice a_v_state_log x.state.log.length c_v_state_log, Value.slice a_v_state_lasts x.state.lasts.length c_v_state_lasts, Value.slice a_v_state_items x.state.items.length c_v_state_items, Value.int IntKind.i64 x.entry.version.epoch, Value.int IntKind.i64 x.entry.version.n, Value.bool x.entry.remove, Value.int IntKind.i64 x.entry.errno, Value.string x.entry.name, Value.int IntKind.i64 x.entry.client, Value.int IntKind.i64 x.entry.number, Value.string x.object.name, Value.int IntKind.i64 x.object.version.epoch, Value.int IntKind.i64 x.object.version.n, Value.slice a_v_object_data x.object.data.length c_v_object_data, Value.int IntKind.i64 x.op.kind, Value.string x.op.name, Value.slice a_v_op_data x.op.data.length c_v_op_data, Value.int IntKind.i64 x.op.expect.epoch, Value.int IntKind.i64 x.op.expect.n, Value.slice a_v_items x.items.length c_v_items, Value.slice a_v_names x.names.length c_v_names, Value.int IntKind.i64 x.errno] 48) := (hG6.old _ (lt_in x5) (fun hh => S5.own.ne x5 (by decide) _ hh rfl)).trans x5
  have z9 : w6.cell? ⟨w.heap.size, 9, none⟩ = some (Value.int IntKind.i64 x.client) := cell_in x6
  have lx := lt_in x6
  go_wp2_with fail
  clear z9 lx
  refine (int_c S6.own x.client (by have := S6.len; simp only [List.length_append, List.length_nil, encI_length, bB_length, leB_length, encT_length, encBy_length] at this hm; omega)).mono ?_
  rintro e w7 ⟨v7, rfl, hG7⟩
  obtain ⟨L7, g7, S7⟩ := S6.then hG7
  obtain ⟨a7, c7, rfl, -, -⟩ := S7.own.shape
  have x7 : w7.heap[w.heap.size]? = some (Obj.cells #[Value.int IntKind.i64 x.kind, Value.int IntKind.i64 x.src.kind, Value.int IntKind.i64 x.src.id, Value.int IntKind.i64 x.dst.kind, Value.int IntKind.i64 x.dst.id, Value.int IntKind.i64 x.boot, Value.int IntKind.i64 x.epoch, Value.int IntKind.i64 x.pg.pool, Value.int IntKind.i64 x.pg.seed, Value.int IntKind.i64 x.client, Value.int IntKind.i64 x.number, Value.int IntKind.i64 x.ballot, Value.slice a_v_slots x.slots.length c_v_slots, Value.slice a_v_incs x.incs.length c_v_incs, Value.slice a_v_changes x.changes.length c_v_changes, Value.int IntKind.i64 x.info.les, Value.int IntKind.i64 x.info.head.epoch, Value.int IntKind.i64 x.info.head.n, Value.int IntKind.i64 x.info.tail.epoch, Value.int IntKind.i64 x.info.tail.n, Value.int IntKind.i64 x.info.born, Value.int IntKind.i64 x.state.les, Value.int IntKind.i64 x.state.tail.epoch, Value.int IntKind.i64 x.state.tail.n, Value.slice a_v_state_log x.state.log.length c_v_state_log, Value.slice a_v_state_lasts x.state.lasts.length c_v_state_lasts, Value.slice a_v_state_items x.state.items.length c_v_state_items, Value.int IntKind.i64 x.entry.version.epoch, Value.int IntKind.i64 x.entry.version.n, Value.bool x.entry.remove, Value.int IntKind.i64 x.entry.errno, Value.string x.entry.name, Value.int IntKind.i64 x.entry.client, Value.int IntKind.i64 x.entry.number, Value.string x.object.name, Value.int IntKind.i64 x.object.version.epoch, Value.int IntKind.i64 x.object.version.n, Value.slice a_v_object_data x.object.data.length c_v_object_data, Value.int IntKind.i64 x.op.kind, Value.string x.op.name, Value.slice a_v_op_data x.op.data.length c_v_op_data, Value.int IntKind.i64 x.op.expect.epoch, Value.int IntKind.i64 x.op.expect.n, Value.slice a_v_items x.items.length c_v_items, Value.slice a_v_names x.names.length c_v_names, Value.int IntKind.i64 x.errno] 48) := (hG7.old _ (lt_in x6) (fun hh => S6.own.ne x6 (by decide) _ hh rfl)).trans x6
  have z10 : w7.cell? ⟨w.heap.size, 10, none⟩ = some (Value.int IntKind.i64 x.number) := cell_in x7
  have lx := lt_in x7
  go_wp2_with fail
  clear z10 lx
  refine (int_c S7.own x.number (by have := S7.len; simp only [List.length_append, List.length_nil, encI_length, bB_length, leB_length, encT_length, encBy_length] at this hm; omega)).mono ?_
  rintro e w8 ⟨v8, rfl, hG8⟩
  obtain ⟨L8, g8, S8⟩ := S7.then hG8
  obtain ⟨a8, c8, rfl, -, -⟩ := S8.own.shape
  have x8 : w8.heap[w.heap.size]? = some (Obj.cells #[Value.int IntKind.i64 x.kind, Value.int IntKind.i64 x.src.kind, Value.int IntKind.i64 x.src.id, Value.int IntKind.i64 x.dst.kind, Value.int IntKind.i64 x.dst.id, Value.int IntKind.i64 x.boot, Value.int IntKind.i64 x.epoch, Value.int IntKind.i64 x.pg.pool, Value.int IntKind.i64 x.pg.seed, Value.int IntKind.i64 x.client, Value.int IntKind.i64 x.number, Value.int IntKind.i64 x.ballot, Value.slice a_v_slots x.slots.length c_v_slots, Value.slice a_v_incs x.incs.length c_v_incs, Value.slice a_v_changes x.changes.length c_v_changes, Value.int IntKind.i64 x.info.les, Value.int IntKind.i64 x.info.head.epoch, Value.int IntKind.i64 x.info.head.n, Value.int IntKind.i64 x.info.tail.epoch, Value.int IntKind.i64 x.info.tail.n, Value.int IntKind.i64 x.info.born, Value.int IntKind.i64 x.state.les, Value.int IntKind.i64 x.state.tail.epoch, Value.int IntKind.i64 x.state.tail.n, Value.slice a_v_state_log x.state.log.length c_v_state_log, Value.slice a_v_state_lasts x.state.lasts.length c_v_state_lasts, Value.slice a_v_state_items x.state.items.length c_v_state_items, Value.int IntKind.i64 x.entry.version.epoch, Value.int IntKind.i64 x.entry.version.n, Value.bool x.entry.remove, Value.int IntKind.i64 x.entry.errno, Value.string x.entry.name, Value.int IntKind.i64 x.entry.client, Value.int IntKind.i64 x.entry.number, Value.string x.object.name, Value.int IntKind.i64 x.object.version.epoch, Value.int IntKind.i64 x.object.version.n, Value.slice a_v_object_data x.object.data.length c_v_object_data, Value.int IntKind.i64 x.op.kind, Value.string x.op.name, Value.slice a_v_op_data x.op.data.length c_v_op_data, Value.int IntKind.i64 x.op.expect.epoch, Value.int IntKind.i64 x.op.expect.n, Value.slice a_v_items x.items.length c_v_items, Value.slice a_v_names x.names.length c_v_names, Value.int IntKind.i64 x.errno] 48) := (hG8.old _ (lt_in x7) (fun hh => S7.own.ne x7 (by decide) _ hh rfl)).trans x7
  have z11 : w8.cell? ⟨w.heap.size, 11, none⟩ = some (Value.int IntKind.i64 x.ballot) := cell_in x8
  have lx := lt_in x8
  go_wp2_with fail
  clear z11 lx
  refine (int_c S8.own x.ballot (by have := S8.len; simp only [List.length_append, List.length_nil, encI_length, bB_length, leB_length, encT_length, encBy_length] at this hm; omega)).mono ?_
  rintro e w9 ⟨v9, rfl, hG9⟩
  obtain ⟨L9, g9, S9⟩ := S8.then hG9
  obtain ⟨a9, c9, rfl, -, -⟩ := S9.own.shape
  have x9 : w9.heap[w.heap.size]? = some (Obj.cells #[Value.int IntKind.i64 x.kind, Value.int IntKind.i64 x.src.kind, Value.int IntKind.i64 x.src.id, Value.int IntKind.i64 x.dst.kind, Value.int IntKind.i64 x.dst.id, Value.int IntKind.i64 x.boot, Value.int IntKind.i64 x.epoch, Value.int IntKind.i64 x.pg.pool, Value.int IntKind.i64 x.pg.seed, Value.int IntKind.i64 x.client, Value.int IntKind.i64 x.number, Value.int IntKind.i64 x.ballot, Value.slice a_v_slots x.slots.length c_v_slots, Value.slice a_v_incs x.incs.length c_v_incs, Value.slice a_v_changes x.changes.length c_v_changes, Value.int IntKind.i64 x.info.les, Value.int IntKind.i64 x.info.head.epoch, Value.int IntKind.i64 x.info.head.n, Value.int IntKind.i64 x.info.tail.epoch, Value.int IntKind.i64 x.info.tail.n, Value.int IntKind.i64 x.info.born, Value.int IntKind.i64 x.state.les, Value.int IntKind.i64 x.state.tail.epoch, Value.int IntKind.i64 x.state.tail.n, Value.slice a_v_state_log x.state.log.length c_v_state_log, Value.slice a_v_state_lasts x.state.lasts.length c_v_state_lasts, Value.slice a_v_state_items x.state.items.length c_v_state_items, Value.int IntKind.i64 x.entry.version.epoch, Value.int IntKind.i64 x.entry.version.n, Value.bool x.entry.remove, Value.int IntKind.i64 x.entry.errno, Value.string x.entry.name, Value.int IntKind.i64 x.entry.client, Value.int IntKind.i64 x.entry.number, Value.string x.object.name, Value.int IntKind.i64 x.object.version.epoch, Value.int IntKind.i64 x.object.version.n, Value.slice a_v_object_data x.object.data.length c_v_object_data, Value.int IntKind.i64 x.op.kind, Value.string x.op.name, Value.slice a_v_op_data x.op.data.length c_v_op_data, Value.int IntKind.i64 x.op.expect.epoch, Value.int IntKind.i64 x.op.expect.n, Value.slice a_v_items x.items.length c_v_items, Value.slice a_v_names x.names.length c_v_names, Value.int IntKind.i64 x.errno] 48) := (hG9.old _ (lt_in x8) (fun hh => S8.own.ne x8 (by decide) _ hh rfl)).trans x8
  have z12 : w9.cell? ⟨w.heap.size, 12, none⟩ = some (Value.slice a_v_slots x.slots.length c_v_slots) := cell_in x9
  have lx := lt_in x9
  go_wp2_with fail
  clear z12 lx
  refine (countRef_c S9.own x.slots.length (by have := S9.len; simp only [List.length_append, List.length_nil, encI_length, bB_length, leB_length, encT_length, encBy_length] at this hm; omega)).mono ?_
  rintro e w10 ⟨v10, rfl, hG10⟩
  obtain ⟨L10, g10, S10⟩ := S9.then hG10
  obtain ⟨a10, c10, rfl, -, -⟩ := S10.own.shape
  have x10 : w10.heap[w.heap.size]? = some (Obj.cells #[Value.int IntKind.i64 x.kind, Value.int IntKind.i64 x.src.kind, Value.int IntKind.i64 x.src.id, Value.int IntKind.i64 x.dst.kind, Value.int IntKind.i64 x.dst.id, Value.int IntKind.i64 x.boot, Value.int IntKind.i64 x.epoch, Value.int IntKind.i64 x.pg.pool, Value.int IntKind.i64 x.pg.seed, Value.int IntKind.i64 x.client, Value.int IntKind.i64 x.number, Value.int IntKind.i64 x.ballot, Value.slice a_v_slots x.slots.length c_v_slots, Value.slice a_v_incs x.incs.length c_v_incs, Value.slice a_v_changes x.changes.length c_v_changes, Value.int IntKind.i64 x.info.les, Value.int IntKind.i64 x.info.head.epoch, Value.int IntKind.i64 x.info.head.n, Value.int IntKind.i64 x.info.tail.epoch, Value.int IntKind.i64 x.info.tail.n, Value.int IntKind.i64 x.info.born, Value.int IntKind.i64 x.state.les, Value.int IntKind.i64 x.state.tail.epoch, Value.int IntKind.i64 x.state.tail.n, Value.slice a_v_state_log x.state.log.length c_v_state_log, Value.slice a_v_state_lasts x.state.lasts.length c_v_state_lasts, Value.slice a_v_state_items x.state.items.length c_v_state_items, Value.int IntKind.i64 x.entry.version.epoch, Value.int IntKind.i64 x.entry.version.n, Value.bool x.entry.remove, Value.int IntKind.i64 x.entry.errno, Value.string x.entry.name, Value.int IntKind.i64 x.entry.client, Value.int IntKind.i64 x.entry.number, Value.string x.object.name, Value.int IntKind.i64 x.object.version.epoch, Value.int IntKind.i64 x.object.version.n, Value.slice a_v_object_data x.object.data.length c_v_object_data, Value.int IntKind.i64 x.op.kind, Value.string x.op.name, Value.slice a_v_op_data x.op.data.length c_v_op_data, Value.int IntKind.i64 x.op.expect.epoch, Value.int IntKind.i64 x.op.expect.n, Value.slice a_v_items x.items.length c_v_items, Value.slice a_v_names x.names.length c_v_names, Value.int IntKind.i64 x.errno] 48) := (hG10.old _ (lt_in x9) (fun hh => S9.own.ne x9 (by decide) _ hh rfl)).trans x9
  have z12 : w10.cell? ⟨w.heap.size, 12, none⟩ = some (Value.slice a_v_slots x.slots.length c_v_slots) := cell_in x10
  have lx := lt_in x10
  go_wp2
  clear z12 lx
  go_loopw [59, 0] (fun i o w' => ∃ (k : Nat) (L : List UInt8) (gL : Option Nat), k ≤ x.slots.length ∧ i = .int .i64 k ∧ Out w w' o out g (([] ++ encI x.kind ++ x.src.enc ++ x.dst.enc ++ encI x.boot ++ encI x.epoch ++ x.pg.enc ++ encI x.client ++ encI x.number ++ encI x.ballot ++ leB 4 x.slots.length) ++ (x.slots.take k).flatMap SlotT.enc) L gL ∧ w'.heap[w.heap.size]? = some (Obj.cells #[Value.int IntKind.i64 x.kind, Value.int IntKind.i64 x.src.kind, Value.int IntKind.i64 x.src.id, Value.int IntKind.i64 x.dst.kind, Value.int IntKind.i64 x.dst.id, Value.int IntKind.i64 x.boot, Value.int IntKind.i64 x.epoch, Value.int IntKind.i64 x.pg.pool, Value.int IntKind.i64 x.pg.seed, Value.int IntKind.i64 x.client, Value.int IntKind.i64 x.number, Value.int IntKind.i64 x.ballot, Value.slice a_v_slots x.slots.length c_v_slots, Value.slice a_v_incs x.incs.length c_v_incs, Value.slice a_v_changes x.changes.length c_v_changes, Value.int IntKind.i64 x.info.les, Value.int IntKind.i64 x.info.head.epoch, Value.int IntKind.i64 x.info.head.n, Value.int IntKind.i64 x.info.tail.epoch, Value.int IntKind.i64 x.info.tail.n, Value.int IntKind.i64 x.info.born, Value.int IntKind.i64 x.state.les, Value.int IntKind.i64 x.state.tail.epoch, Value.int IntKind.i64 x.state.tail.n, Value.slice a_v_state_log x.state.log.length c_v_state_log, Value.slice a_v_state_lasts x.state.lasts.length c_v_state_lasts, Value.slice a_v_state_items x.state.items.length c_v_state_items, Value.int IntKind.i64 x.entry.version.epoch, Value.int IntKind.i64 x.entry.version.n, Value.bool x.entry.remove, Value.int IntKind.i64 x.entry.errno, Value.string x.entry.name, Value.int IntKind.i64 x.entry.client, Value.int IntKind.i64 x.entry.number, Value.string x.object.name, Value.int IntKind.i64 x.object.version.epoch, Value.int IntKind.i64 x.object.version.n, Value.slice a_v_object_data x.object.data.length c_v_object_data, Value.int IntKind.i64 x.op.kind, Value.string x.op.name, Value.slice a_v_op_data x.op.data.length c_v_op_data, Value.int IntKind.i64 x.op.expect.epoch, Value.int IntKind.i64 x.op.expect.n, Value.slice a_v_items x.items.length c_v_items, Value.slice a_v_names x.names.length c_v_names, Value.int IntKind.i64 x.errno] 48)) (fun i _ _ => x.slots.length - (intOf i).toNat)
  case atStart => exact ⟨0, L10, g10, by omega, rfl, S10.cast (by simp), x10⟩
  case round =>
    obtain ⟨k, L, gL, hk, rfl, SL, xl⟩ := hrel
    by_cases hk2 : k < x.slots.length
    · have hki : (k : Int) < (x.slots.length : Int) := by omega
      have hnl : x.slots.length ≤ 9223372036854775807 := l0.small
      have hd := SL.data hS
      obtain ⟨b, off, cs, rfl, hb, hcl, hcell, hr⟩ := (l0.heap (fun _ _ h => SlotT.Is.heap h (fun _ h => h) hd) (fun _ h => h) hd).at hk2
      have hfl := flatMap_le SlotT.enc x.slots (k + 1)
      have hft := flatMap_take SlotT.enc x.slots k hk2
      rw [hft, List.length_append] at hfl
      obtain ⟨e, he⟩ : ∃ e, e = x.slots[k] := ⟨_, rfl⟩
      rw [← he] at hr hft hfl
      have HFT := Lib.hid hft
      clear hft he hcl
      obtain ⟨aL, cL, rfl, -, -⟩ := SL.own.shape
      have hr0 := hr
      obtain ⟨uv_value, rfl, j0, j1, m0⟩ := hr
      obtain ⟨au0, cu0, rfl, -⟩ := m0.shape
      have y0 : wr.cell? ⟨b, off + k * 3, none⟩ = some (Value.int IntKind.i64 e.slot) := hcell 0 (by omega)
      have y1 : wr.cell? ⟨b, off + k * 3 + 1, none⟩ = some (Value.int IntKind.i64 e.ballot) := hcell 1 (by omega)
      have y2 : wr.cell? ⟨b, off + k * 3 + 2, none⟩ = some (Value.slice au0 e.value.length cu0) := hcell 2 (by omega)
      go_wp2_with fail
      have SA := SL.alloc (Obj.cells #[Value.int IntKind.i64 e.slot, Value.int IntKind.i64 e.ballot, Value.slice au0 e.value.length cu0] 149)
      have xa : (wr.alloc (Obj.cells #[Value.int IntKind.i64 e.slot, Value.int IntKind.i64 e.ballot, Value.slice au0 e.value.length cu0] 149)).heap[w.heap.size]? = _ := (Below.heap_alloc _ _ _ (lt_in xl)).trans xl
      have hrA : SlotT.Is (wr.alloc (Obj.cells #[Value.int IntKind.i64 e.slot, Value.int IntKind.i64 e.ballot, Value.slice au0 e.value.length cu0] 149)) S _ e := hr0.heap (fun _ h => h) (fun k hk => Below.heap_alloc _ _ _ (Nat.lt_of_lt_of_le (hS k hk).1 SL.kept.size))
      generalize wr.alloc (Obj.cells #[Value.int IntKind.i64 e.slot, Value.int IntKind.i64 e.ballot, Value.slice au0 e.value.length cu0] 149) = wa at SA xa hrA ⊢
      refine (putSlot_c (S := S) SA.own (fun k hk => ⟨Nat.lt_of_lt_of_le (hS k hk).1 SA.kept.size, fun hh => by rcases SA.new k hh with h' | h'; exact (hS k hk).2 h'; exact absurd (hS k hk).1 (by omega)⟩) e hrA (by have := SL.len; simp only [List.length_append, List.length_nil, encI_length, bB_length, leB_length, encT_length, encBy_length] at this hm hfl; omega)).mono ?_
      rintro _ w9 ⟨v9, rfl, hG⟩
      obtain ⟨L9, g9, S9⟩ := SA.then hG
      have xl9 : w9.heap[w.heap.size]? = _ := (hG.old _ (lt_in xa) (fun hh => SA.own.ne xa (by decide) _ hh rfl)).trans xa
      obtain ⟨a9, c9, rfl, -, -⟩ := S9.own.shape
      have X9 := Lib.hid xl9
      have HS9 := Lib.hid (S9.cast (more' := ([] ++ encI x.kind ++ x.src.enc ++ x.dst.enc ++ encI x.boot ++ encI x.epoch ++ x.pg.enc ++ encI x.client ++ encI x.number ++ encI x.ballot ++ leB 4 x.slots.length) ++ (x.slots.take (k + 1)).flatMap SlotT.enc) (by rw [HFT.out, List.append_assoc]))
      clear xl9 S9 hG
      go_wp2
      exact ⟨⟨k + 1, L9, g9, by omega, by simp, HS9.out, X9.out⟩, by simp [intOf]; omega⟩
    · obtain rfl : k = x.slots.length := by omega
      have S11 : Out w wr _ out g (([] ++ encI x.kind ++ x.src.enc ++ x.dst.enc ++ encI x.boot ++ encI x.epoch ++ x.pg.enc ++ encI x.client ++ encI x.number ++ encI x.ballot ++ leB 4 x.slots.length) ++ x.slots.flatMap SlotT.enc) L gL := SL.cast (by rw [List.take_length])
      obtain ⟨a11, c11, rfl, -, -⟩ := S11.own.shape
      have x11 := xl
      rename World => w11
      clear SL xl
      have z13 : w11.cell? ⟨w.heap.size, 13, none⟩ = some (Value.slice a_v_incs x.incs.length c_v_incs) := cell_in x11
      have lx := lt_in x11
      go_wp2_with fail
      clear z13 lx
      refine (countRef_c S11.own x.incs.length (by have := S11.len; simp only [List.length_append, List.length_nil, encI_length, bB_length, leB_length, encT_length, encBy_length] at this hm; omega)).mono ?_
      rintro e w12 ⟨v12, rfl, hG12⟩
      obtain ⟨L12, g12, S12⟩ := S11.then hG12
      obtain ⟨a12, c12, rfl, -, -⟩ := S12.own.shape
      have x12 : w12.heap[w.heap.size]? = some (Obj.cells #[Value.int IntKind.i64 x.kind, Value.int IntKind.i64 x.src.kind, Value.int IntKind.i64 x.src.id, Value.int IntKind.i64 x.dst.kind, Value.int IntKind.i64 x.dst.id, Value.int IntKind.i64 x.boot, Value.int IntKind.i64 x.epoch, Value.int IntKind.i64 x.pg.pool, Value.int IntKind.i64 x.pg.seed, Value.int IntKind.i64 x.client, Value.int IntKind.i64 x.number, Value.int IntKind.i64 x.ballot, Value.slice a_v_slots x.slots.length c_v_slots, Value.slice a_v_incs x.incs.length c_v_incs, Value.slice a_v_changes x.changes.length c_v_changes, Value.int IntKind.i64 x.info.les, Value.int IntKind.i64 x.info.head.epoch, Value.int IntKind.i64 x.info.head.n, Value.int IntKind.i64 x.info.tail.epoch, Value.int IntKind.i64 x.info.tail.n, Value.int IntKind.i64 x.info.born, Value.int IntKind.i64 x.state.les, Value.int IntKind.i64 x.state.tail.epoch, Value.int IntKind.i64 x.state.tail.n, Value.slice a_v_state_log x.state.log.length c_v_state_log, Value.slice a_v_state_lasts x.state.lasts.length c_v_state_lasts, Value.slice a_v_state_items x.state.items.length c_v_state_items, Value.int IntKind.i64 x.entry.version.epoch, Value.int IntKind.i64 x.entry.version.n, Value.bool x.entry.remove, Value.int IntKind.i64 x.entry.errno, Value.string x.entry.name, Value.int IntKind.i64 x.entry.client, Value.int IntKind.i64 x.entry.number, Value.string x.object.name, Value.int IntKind.i64 x.object.version.epoch, Value.int IntKind.i64 x.object.version.n, Value.slice a_v_object_data x.object.data.length c_v_object_data, Value.int IntKind.i64 x.op.kind, Value.string x.op.name, Value.slice a_v_op_data x.op.data.length c_v_op_data, Value.int IntKind.i64 x.op.expect.epoch, Value.int IntKind.i64 x.op.expect.n, Value.slice a_v_items x.items.length c_v_items, Value.slice a_v_names x.names.length c_v_names, Value.int IntKind.i64 x.errno] 48) := (hG12.old _ (lt_in x11) (fun hh => S11.own.ne x11 (by decide) _ hh rfl)).trans x11
      have z13 : w12.cell? ⟨w.heap.size, 13, none⟩ = some (Value.slice a_v_incs x.incs.length c_v_incs) := cell_in x12
      have lx := lt_in x12
      go_wp2
      clear z13 lx
      go_loopw [75, 0] (fun i o w' => ∃ (k : Nat) (L : List UInt8) (gL : Option Nat), k ≤ x.incs.length ∧ i = .int .i64 k ∧ Out w w' o out g (([] ++ encI x.kind ++ x.src.enc ++ x.dst.enc ++ encI x.boot ++ encI x.epoch ++ x.pg.enc ++ encI x.client ++ encI x.number ++ encI x.ballot ++ leB 4 x.slots.length ++ x.slots.flatMap SlotT.enc ++ leB 4 x.incs.length) ++ (x.incs.take k).flatMap IncT.enc) L gL ∧ w'.heap[w.heap.size]? = some (Obj.cells #[Value.int IntKind.i64 x.kind, Value.int IntKind.i64 x.src.kind, Value.int IntKind.i64 x.src.id, Value.int IntKind.i64 x.dst.kind, Value.int IntKind.i64 x.dst.id, Value.int IntKind.i64 x.boot, Value.int IntKind.i64 x.epoch, Value.int IntKind.i64 x.pg.pool, Value.int IntKind.i64 x.pg.seed, Value.int IntKind.i64 x.client, Value.int IntKind.i64 x.number, Value.int IntKind.i64 x.ballot, Value.slice a_v_slots x.slots.length c_v_slots, Value.slice a_v_incs x.incs.length c_v_incs, Value.slice a_v_changes x.changes.length c_v_changes, Value.int IntKind.i64 x.info.les, Value.int IntKind.i64 x.info.head.epoch, Value.int IntKind.i64 x.info.head.n, Value.int IntKind.i64 x.info.tail.epoch, Value.int IntKind.i64 x.info.tail.n, Value.int IntKind.i64 x.info.born, Value.int IntKind.i64 x.state.les, Value.int IntKind.i64 x.state.tail.epoch, Value.int IntKind.i64 x.state.tail.n, Value.slice a_v_state_log x.state.log.length c_v_state_log, Value.slice a_v_state_lasts x.state.lasts.length c_v_state_lasts, Value.slice a_v_state_items x.state.items.length c_v_state_items, Value.int IntKind.i64 x.entry.version.epoch, Value.int IntKind.i64 x.entry.version.n, Value.bool x.entry.remove, Value.int IntKind.i64 x.entry.errno, Value.string x.entry.name, Value.int IntKind.i64 x.entry.client, Value.int IntKind.i64 x.entry.number, Value.string x.object.name, Value.int IntKind.i64 x.object.version.epoch, Value.int IntKind.i64 x.object.version.n, Value.slice a_v_object_data x.object.data.length c_v_object_data, Value.int IntKind.i64 x.op.kind, Value.string x.op.name, Value.slice a_v_op_data x.op.data.length c_v_op_data, Value.int IntKind.i64 x.op.expect.epoch, Value.int IntKind.i64 x.op.expect.n, Value.slice a_v_items x.items.length c_v_items, Value.slice a_v_names x.names.length c_v_names, Value.int IntKind.i64 x.errno] 48)) (fun i _ _ => x.incs.length - (intOf i).toNat)
      case atStart => exact ⟨0, L12, g12, by omega, rfl, S12.cast (by simp), x12⟩
      case round =>
        obtain ⟨k, L, gL, hk, rfl, SL, xl⟩ := hrel
        by_cases hk2 : k < x.incs.length
        · have hki : (k : Int) < (x.incs.length : Int) := by omega
          have hnl : x.incs.length ≤ 9223372036854775807 := l1.small
          have hd := SL.data hS
          obtain ⟨b, off, cs, rfl, hb, hcl, hcell, hr⟩ := (l1.heap (fun _ _ h => IncT.Is.heap h (fun _ h => h) hd) (fun _ h => h) hd).at hk2
          have hfl := flatMap_le IncT.enc x.incs (k + 1)
          have hft := flatMap_take IncT.enc x.incs k hk2
          rw [hft, List.length_append] at hfl
          obtain ⟨e, he⟩ : ∃ e, e = x.incs[k] := ⟨_, rfl⟩
          rw [← he] at hr hft hfl
          have HFT := Lib.hid hft
          clear hft he hcl
          obtain ⟨aL, cL, rfl, -, -⟩ := SL.own.shape
          have hr0 := hr
          obtain ⟨uv_changes, rfl, j0, m0⟩ := hr
          obtain ⟨au0, cu0, rfl, -⟩ := m0.shape
          have y0 : wr.cell? ⟨b, off + k * 2, none⟩ = some (Value.int IntKind.i64 e.epoch) := hcell 0 (by omega)
          have y1 : wr.cell? ⟨b, off + k * 2 + 1, none⟩ = some (Value.slice au0 e.changes.length cu0) := hcell 1 (by omega)
          go_wp2_with fail
          have SA := SL.alloc (Obj.cells #[Value.int IntKind.i64 e.epoch, Value.slice au0 e.changes.length cu0] 57)
          have xa : (wr.alloc (Obj.cells #[Value.int IntKind.i64 e.epoch, Value.slice au0 e.changes.length cu0] 57)).heap[w.heap.size]? = _ := (Below.heap_alloc _ _ _ (lt_in xl)).trans xl
          have hrA : IncT.Is (wr.alloc (Obj.cells #[Value.int IntKind.i64 e.epoch, Value.slice au0 e.changes.length cu0] 57)) S _ e := hr0.heap (fun _ h => h) (fun k hk => Below.heap_alloc _ _ _ (Nat.lt_of_lt_of_le (hS k hk).1 SL.kept.size))
          generalize wr.alloc (Obj.cells #[Value.int IntKind.i64 e.epoch, Value.slice au0 e.changes.length cu0] 57) = wa at SA xa hrA ⊢
          refine (putInc_c (S := S) SA.own (fun k hk => ⟨Nat.lt_of_lt_of_le (hS k hk).1 SA.kept.size, fun hh => by rcases SA.new k hh with h' | h'; exact (hS k hk).2 h'; exact absurd (hS k hk).1 (by omega)⟩) e hrA (by have := SL.len; simp only [List.length_append, List.length_nil, encI_length, bB_length, leB_length, encT_length, encBy_length] at this hm hfl; omega)).mono ?_
          rintro _ w9 ⟨v9, rfl, hG⟩
          obtain ⟨L9, g9, S9⟩ := SA.then hG
          have xl9 : w9.heap[w.heap.size]? = _ := (hG.old _ (lt_in xa) (fun hh => SA.own.ne xa (by decide) _ hh rfl)).trans xa
          obtain ⟨a9, c9, rfl, -, -⟩ := S9.own.shape
          have X9 := Lib.hid xl9
          have HS9 := Lib.hid (S9.cast (more' := ([] ++ encI x.kind ++ x.src.enc ++ x.dst.enc ++ encI x.boot ++ encI x.epoch ++ x.pg.enc ++ encI x.client ++ encI x.number ++ encI x.ballot ++ leB 4 x.slots.length ++ x.slots.flatMap SlotT.enc ++ leB 4 x.incs.length) ++ (x.incs.take (k + 1)).flatMap IncT.enc) (by rw [HFT.out, List.append_assoc]))
          clear xl9 S9 hG
          go_wp2
          exact ⟨⟨k + 1, L9, g9, by omega, by simp, HS9.out, X9.out⟩, by simp [intOf]; omega⟩
        · obtain rfl : k = x.incs.length := by omega
          have S13 : Out w wr _ out g (([] ++ encI x.kind ++ x.src.enc ++ x.dst.enc ++ encI x.boot ++ encI x.epoch ++ x.pg.enc ++ encI x.client ++ encI x.number ++ encI x.ballot ++ leB 4 x.slots.length ++ x.slots.flatMap SlotT.enc ++ leB 4 x.incs.length) ++ x.incs.flatMap IncT.enc) L gL := SL.cast (by rw [List.take_length])
          obtain ⟨a13, c13, rfl, -, -⟩ := S13.own.shape
          have x13 := xl
          rename World => w13
          clear SL xl
          have z14 : w13.cell? ⟨w.heap.size, 14, none⟩ = some (Value.slice a_v_changes x.changes.length c_v_changes) := cell_in x13
          have lx := lt_in x13
          go_wp2_with fail
          clear z14 lx
          refine (countRef_c S13.own x.changes.length (by have := S13.len; simp only [List.length_append, List.length_nil, encI_length, bB_length, leB_length, encT_length, encBy_length] at this hm; omega)).mono ?_
          rintro e w14 ⟨v14, rfl, hG14⟩
          obtain ⟨L14, g14, S14⟩ := S13.then hG14
          obtain ⟨a14, c14, rfl, -, -⟩ := S14.own.shape
          have x14 : w14.heap[w.heap.size]? = some (Obj.cells #[Value.int IntKind.i64 x.kind, Value.int IntKind.i64 x.src.kind, Value.int IntKind.i64 x.src.id, Value.int IntKind.i64 x.dst.kind, Value.int IntKind.i64 x.dst.id, Value.int IntKind.i64 x.boot, Value.int IntKind.i64 x.epoch, Value.int IntKind.i64 x.pg.pool, Value.int IntKind.i64 x.pg.seed, Value.int IntKind.i64 x.client, Value.int IntKind.i64 x.number, Value.int IntKind.i64 x.ballot, Value.slice a_v_slots x.slots.length c_v_slots, Value.slice a_v_incs x.incs.length c_v_incs, Value.slice a_v_changes x.changes.length c_v_changes, Value.int IntKind.i64 x.info.les, Value.int IntKind.i64 x.info.head.epoch, Value.int IntKind.i64 x.info.head.n, Value.int IntKind.i64 x.info.tail.epoch, Value.int IntKind.i64 x.info.tail.n, Value.int IntKind.i64 x.info.born, Value.int IntKind.i64 x.state.les, Value.int IntKind.i64 x.state.tail.epoch, Value.int IntKind.i64 x.state.tail.n, Value.slice a_v_state_log x.state.log.length c_v_state_log, Value.slice a_v_state_lasts x.state.lasts.length c_v_state_lasts, Value.slice a_v_state_items x.state.items.length c_v_state_items, Value.int IntKind.i64 x.entry.version.epoch, Value.int IntKind.i64 x.entry.version.n, Value.bool x.entry.remove, Value.int IntKind.i64 x.entry.errno, Value.string x.entry.name, Value.int IntKind.i64 x.entry.client, Value.int IntKind.i64 x.entry.number, Value.string x.object.name, Value.int IntKind.i64 x.object.version.epoch, Value.int IntKind.i64 x.object.version.n, Value.slice a_v_object_data x.object.data.length c_v_object_data, Value.int IntKind.i64 x.op.kind, Value.string x.op.name, Value.slice a_v_op_data x.op.data.length c_v_op_data, Value.int IntKind.i64 x.op.expect.epoch, Value.int IntKind.i64 x.op.expect.n, Value.slice a_v_items x.items.length c_v_items, Value.slice a_v_names x.names.length c_v_names, Value.int IntKind.i64 x.errno] 48) := (hG14.old _ (lt_in x13) (fun hh => S13.own.ne x13 (by decide) _ hh rfl)).trans x13
          have z14 : w14.cell? ⟨w.heap.size, 14, none⟩ = some (Value.slice a_v_changes x.changes.length c_v_changes) := cell_in x14
          have lx := lt_in x14
          go_wp2
          clear z14 lx
          go_loopw [91, 0] (fun i o w' => ∃ (k : Nat) (L : List UInt8) (gL : Option Nat), k ≤ x.changes.length ∧ i = .int .i64 k ∧ Out w w' o out g (([] ++ encI x.kind ++ x.src.enc ++ x.dst.enc ++ encI x.boot ++ encI x.epoch ++ x.pg.enc ++ encI x.client ++ encI x.number ++ encI x.ballot ++ leB 4 x.slots.length ++ x.slots.flatMap SlotT.enc ++ leB 4 x.incs.length ++ x.incs.flatMap IncT.enc ++ leB 4 x.changes.length) ++ (x.changes.take k).flatMap ChangeT.enc) L gL ∧ w'.heap[w.heap.size]? = some (Obj.cells #[Value.int IntKind.i64 x.kind, Value.int IntKind.i64 x.src.kind, Value.int IntKind.i64 x.src.id, Value.int IntKind.i64 x.dst.kind, Value.int IntKind.i64 x.dst.id, Value.int IntKind.i64 x.boot, Value.int IntKind.i64 x.epoch, Value.int IntKind.i64 x.pg.pool, Value.int IntKind.i64 x.pg.seed, Value.int IntKind.i64 x.client, Value.int IntKind.i64 x.number, Value.int IntKind.i64 x.ballot, Value.slice a_v_slots x.slots.length c_v_slots, Value.slice a_v_incs x.incs.length c_v_incs, Value.slice a_v_changes x.changes.length c_v_changes, Value.int IntKind.i64 x.info.les, Value.int IntKind.i64 x.info.head.epoch, Value.int IntKind.i64 x.info.head.n, Value.int IntKind.i64 x.info.tail.epoch, Value.int IntKind.i64 x.info.tail.n, Value.int IntKind.i64 x.info.born, Value.int IntKind.i64 x.state.les, Value.int IntKind.i64 x.state.tail.epoch, Value.int IntKind.i64 x.state.tail.n, Value.slice a_v_state_log x.state.log.length c_v_state_log, Value.slice a_v_state_lasts x.state.lasts.length c_v_state_lasts, Value.slice a_v_state_items x.state.items.length c_v_state_items, Value.int IntKind.i64 x.entry.version.epoch, Value.int IntKind.i64 x.entry.version.n, Value.bool x.entry.remove, Value.int IntKind.i64 x.entry.errno, Value.string x.entry.name, Value.int IntKind.i64 x.entry.client, Value.int IntKind.i64 x.entry.number, Value.string x.object.name, Value.int IntKind.i64 x.object.version.epoch, Value.int IntKind.i64 x.object.version.n, Value.slice a_v_object_data x.object.data.length c_v_object_data, Value.int IntKind.i64 x.op.kind, Value.string x.op.name, Value.slice a_v_op_data x.op.data.length c_v_op_data, Value.int IntKind.i64 x.op.expect.epoch, Value.int IntKind.i64 x.op.expect.n, Value.slice a_v_items x.items.length c_v_items, Value.slice a_v_names x.names.length c_v_names, Value.int IntKind.i64 x.errno] 48)) (fun i _ _ => x.changes.length - (intOf i).toNat)
          case atStart => exact ⟨0, L14, g14, by omega, rfl, S14.cast (by simp), x14⟩
          case round =>
            obtain ⟨k, L, gL, hk, rfl, SL, xl⟩ := hrel
            by_cases hk2 : k < x.changes.length
            · have hki : (k : Int) < (x.changes.length : Int) := by omega
              have hnl : x.changes.length ≤ 9223372036854775807 := l2.small
              have hd := SL.data hS
              obtain ⟨b, off, cs, rfl, hb, hcl, hcell, hr⟩ := (l2.heap (fun _ _ h => ChangeT.Is.heap h (fun _ h => h) hd) (fun _ h => h) hd).at hk2
              have hfl := flatMap_le ChangeT.enc x.changes (k + 1)
              have hft := flatMap_take ChangeT.enc x.changes k hk2
              rw [hft, List.length_append] at hfl
              obtain ⟨e, he⟩ : ∃ e, e = x.changes[k] := ⟨_, rfl⟩
              rw [← he] at hr hft hfl
              have HFT := Lib.hid hft
              clear hft he hcl
              obtain ⟨aL, cL, rfl, -, -⟩ := SL.own.shape
              have hr0 := hr
              obtain ⟨uv_bucket_items, uv_bucket_weights, rfl, j0, j1, j2, j3, j4, j5, j6, j7, j8, m0, m1⟩ := hr
              obtain ⟨au0, cu0, rfl, -⟩ := m0.shape
              obtain ⟨au1, cu1, rfl, -⟩ := m1.shape
              have y0 : wr.cell? ⟨b, off + k * 11, none⟩ = some (Value.int IntKind.i64 e.kind) := hcell 0 (by omega)
              have y1 : wr.cell? ⟨b, off + k * 11 + 1, none⟩ = some (Value.int IntKind.i64 e.osd) := hcell 1 (by omega)
              have y2 : wr.cell? ⟨b, off + k * 11 + 2, none⟩ = some (Value.int IntKind.i64 e.value) := hcell 2 (by omega)
              have y3 : wr.cell? ⟨b, off + k * 11 + 3, none⟩ = some (Value.int IntKind.i64 e.pool.id) := hcell 3 (by omega)
              have y4 : wr.cell? ⟨b, off + k * 11 + 4, none⟩ = some (Value.int IntKind.i64 e.pool.size) := hcell 4 (by omega)
              have y5 : wr.cell? ⟨b, off + k * 11 + 5, none⟩ = some (Value.int IntKind.i64 e.pool.min) := hcell 5 (by omega)
              have y6 : wr.cell? ⟨b, off + k * 11 + 6, none⟩ = some (Value.int IntKind.i64 e.pool.pgs) := hcell 6 (by omega)
              have y7 : wr.cell? ⟨b, off + k * 11 + 7, none⟩ = some (Value.int IntKind.i64 e.bucket.id) := hcell 7 (by omega)
              have y8 : wr.cell? ⟨b, off + k * 11 + 8, none⟩ = some (Value.int IntKind.i64 e.bucket.kind) := hcell 8 (by omega)
              have y9 : wr.cell? ⟨b, off + k * 11 + 9, none⟩ = some (Value.slice au0 e.bucket.items.length cu0) := hcell 9 (by omega)
              have y10 : wr.cell? ⟨b, off + k * 11 + 10, none⟩ = some (Value.slice au1 e.bucket.weights.length cu1) := hcell 10 (by omega)
              go_wp2_with fail
              have SA := SL.alloc (Obj.cells #[Value.int IntKind.i64 e.kind, Value.int IntKind.i64 e.osd, Value.int IntKind.i64 e.value, Value.int IntKind.i64 e.pool.id, Value.int IntKind.i64 e.pool.size, Value.int IntKind.i64 e.pool.min, Value.int IntKind.i64 e.pool.pgs, Value.int IntKind.i64 e.bucket.id, Value.int IntKind.i64 e.bucket.kind, Value.slice au0 e.bucket.items.length cu0, Value.slice au1 e.bucket.weights.length cu1] 161)
              have xa : (wr.alloc (Obj.cells #[Value.int IntKind.i64 e.kind, Value.int IntKind.i64 e.osd, Value.int IntKind.i64 e.value, Value.int IntKind.i64 e.pool.id, Value.int IntKind.i64 e.pool.size, Value.int IntKind.i64 e.pool.min, Value.int IntKind.i64 e.pool.pgs, Value.int IntKind.i64 e.bucket.id, Value.int IntKind.i64 e.bucket.kind, Value.slice au0 e.bucket.items.length cu0, Value.slice au1 e.bucket.weights.length cu1] 161)).heap[w.heap.size]? = _ := (Below.heap_alloc _ _ _ (lt_in xl)).trans xl
              have hrA : ChangeT.Is (wr.alloc (Obj.cells #[Value.int IntKind.i64 e.kind, Value.int IntKind.i64 e.osd, Value.int IntKind.i64 e.value, Value.int IntKind.i64 e.pool.id, Value.int IntKind.i64 e.pool.size, Value.int IntKind.i64 e.pool.min, Value.int IntKind.i64 e.pool.pgs, Value.int IntKind.i64 e.bucket.id, Value.int IntKind.i64 e.bucket.kind, Value.slice au0 e.bucket.items.length cu0, Value.slice au1 e.bucket.weights.length cu1] 161)) S _ e := hr0.heap (fun _ h => h) (fun k hk => Below.heap_alloc _ _ _ (Nat.lt_of_lt_of_le (hS k hk).1 SL.kept.size))
              generalize wr.alloc (Obj.cells #[Value.int IntKind.i64 e.kind, Value.int IntKind.i64 e.osd, Value.int IntKind.i64 e.value, Value.int IntKind.i64 e.pool.id, Value.int IntKind.i64 e.pool.size, Value.int IntKind.i64 e.pool.min, Value.int IntKind.i64 e.pool.pgs, Value.int IntKind.i64 e.bucket.id, Value.int IntKind.i64 e.bucket.kind, Value.slice au0 e.bucket.items.length cu0, Value.slice au1 e.bucket.weights.length cu1] 161) = wa at SA xa hrA ⊢
              refine (putChange_c (S := S) SA.own (fun k hk => ⟨Nat.lt_of_lt_of_le (hS k hk).1 SA.kept.size, fun hh => by rcases SA.new k hh with h' | h'; exact (hS k hk).2 h'; exact absurd (hS k hk).1 (by omega)⟩) e hrA (by have := SL.len; simp only [List.length_append, List.length_nil, encI_length, bB_length, leB_length, encT_length, encBy_length] at this hm hfl; omega)).mono ?_
              rintro _ w9 ⟨v9, rfl, hG⟩
              obtain ⟨L9, g9, S9⟩ := SA.then hG
              have xl9 : w9.heap[w.heap.size]? = _ := (hG.old _ (lt_in xa) (fun hh => SA.own.ne xa (by decide) _ hh rfl)).trans xa
              obtain ⟨a9, c9, rfl, -, -⟩ := S9.own.shape
              have X9 := Lib.hid xl9
              have HS9 := Lib.hid (S9.cast (more' := ([] ++ encI x.kind ++ x.src.enc ++ x.dst.enc ++ encI x.boot ++ encI x.epoch ++ x.pg.enc ++ encI x.client ++ encI x.number ++ encI x.ballot ++ leB 4 x.slots.length ++ x.slots.flatMap SlotT.enc ++ leB 4 x.incs.length ++ x.incs.flatMap IncT.enc ++ leB 4 x.changes.length) ++ (x.changes.take (k + 1)).flatMap ChangeT.enc) (by rw [HFT.out, List.append_assoc]))
              clear xl9 S9 hG
              go_wp2
              exact ⟨⟨k + 1, L9, g9, by omega, by simp, HS9.out, X9.out⟩, by simp [intOf]; omega⟩
            · obtain rfl : k = x.changes.length := by omega
              have S15 : Out w wr _ out g (([] ++ encI x.kind ++ x.src.enc ++ x.dst.enc ++ encI x.boot ++ encI x.epoch ++ x.pg.enc ++ encI x.client ++ encI x.number ++ encI x.ballot ++ leB 4 x.slots.length ++ x.slots.flatMap SlotT.enc ++ leB 4 x.incs.length ++ x.incs.flatMap IncT.enc ++ leB 4 x.changes.length) ++ x.changes.flatMap ChangeT.enc) L gL := SL.cast (by rw [List.take_length])
              obtain ⟨a15, c15, rfl, -, -⟩ := S15.own.shape
              have x15 := xl
              rename World => w15
              clear SL xl
              have z15 : w15.cell? ⟨w.heap.size, 15, none⟩ = some (Value.int IntKind.i64 x.info.les) := cell_in x15
              have z16 : w15.cell? ⟨w.heap.size, 16, none⟩ = some (Value.int IntKind.i64 x.info.head.epoch) := cell_in x15
              have z17 : w15.cell? ⟨w.heap.size, 17, none⟩ = some (Value.int IntKind.i64 x.info.head.n) := cell_in x15
              have z18 : w15.cell? ⟨w.heap.size, 18, none⟩ = some (Value.int IntKind.i64 x.info.tail.epoch) := cell_in x15
              have z19 : w15.cell? ⟨w.heap.size, 19, none⟩ = some (Value.int IntKind.i64 x.info.tail.n) := cell_in x15
              have z20 : w15.cell? ⟨w.heap.size, 20, none⟩ = some (Value.int IntKind.i64 x.info.born) := cell_in x15
              have lx := lt_in x15
              go_wp2_with fail
              clear z15 z16 z17 z18 z19 z20 lx
              refine (putInfo_c S15.own x.info ⟨i12, i13, i14, i15, i16, i17⟩ (by have := S15.len; simp only [List.length_append, List.length_nil, encI_length, bB_length, leB_length, encT_length, encBy_length] at this hm; simp only [InfoT.enc, List.length_append, List.length_nil, encI_length, bB_length, leB_length, encT_length, encBy_length] at this hm ⊢; omega)).mono ?_
              rintro e w16 ⟨v16, rfl, hG16⟩
              obtain ⟨L16, g16, S16⟩ := S15.then hG16
              obtain ⟨a16, c16, rfl, -, -⟩ := S16.own.shape
              have x16 : w16.heap[w.heap.size]? = some (Obj.cells #[Value.int IntKind.i64 x.kind, Value.int IntKind.i64 x.src.kind, Value.int IntKind.i64 x.src.id, Value.int IntKind.i64 x.dst.kind, Value.int IntKind.i64 x.dst.id, Value.int IntKind.i64 x.boot, Value.int IntKind.i64 x.epoch, Value.int IntKind.i64 x.pg.pool, Value.int IntKind.i64 x.pg.seed, Value.int IntKind.i64 x.client, Value.int IntKind.i64 x.number, Value.int IntKind.i64 x.ballot, Value.slice a_v_slots x.slots.length c_v_slots, Value.slice a_v_incs x.incs.length c_v_incs, Value.slice a_v_changes x.changes.length c_v_changes, Value.int IntKind.i64 x.info.les, Value.int IntKind.i64 x.info.head.epoch, Value.int IntKind.i64 x.info.head.n, Value.int IntKind.i64 x.info.tail.epoch, Value.int IntKind.i64 x.info.tail.n, Value.int IntKind.i64 x.info.born, Value.int IntKind.i64 x.state.les, Value.int IntKind.i64 x.state.tail.epoch, Value.int IntKind.i64 x.state.tail.n, Value.slice a_v_state_log x.state.log.length c_v_state_log, Value.slice a_v_state_lasts x.state.lasts.length c_v_state_lasts, Value.slice a_v_state_items x.state.items.length c_v_state_items, Value.int IntKind.i64 x.entry.version.epoch, Value.int IntKind.i64 x.entry.version.n, Value.bool x.entry.remove, Value.int IntKind.i64 x.entry.errno, Value.string x.entry.name, Value.int IntKind.i64 x.entry.client, Value.int IntKind.i64 x.entry.number, Value.string x.object.name, Value.int IntKind.i64 x.object.version.epoch, Value.int IntKind.i64 x.object.version.n, Value.slice a_v_object_data x.object.data.length c_v_object_data, Value.int IntKind.i64 x.op.kind, Value.string x.op.name, Value.slice a_v_op_data x.op.data.length c_v_op_data, Value.int IntKind.i64 x.op.expect.epoch, Value.int IntKind.i64 x.op.expect.n, Value.slice a_v_items x.items.length c_v_items, Value.slice a_v_names x.names.length c_v_names, Value.int IntKind.i64 x.errno] 48) := (hG16.old _ (lt_in x15) (fun hh => S15.own.ne x15 (by decide) _ hh rfl)).trans x15
              have z21 : w16.cell? ⟨w.heap.size, 21, none⟩ = some (Value.int IntKind.i64 x.state.les) := cell_in x16
              have z22 : w16.cell? ⟨w.heap.size, 22, none⟩ = some (Value.int IntKind.i64 x.state.tail.epoch) := cell_in x16
              have z23 : w16.cell? ⟨w.heap.size, 23, none⟩ = some (Value.int IntKind.i64 x.state.tail.n) := cell_in x16
              have z24 : w16.cell? ⟨w.heap.size, 24, none⟩ = some (Value.slice a_v_state_log x.state.log.length c_v_state_log) := cell_in x16
              have z25 : w16.cell? ⟨w.heap.size, 25, none⟩ = some (Value.slice a_v_state_lasts x.state.lasts.length c_v_state_lasts) := cell_in x16
              have z26 : w16.cell? ⟨w.heap.size, 26, none⟩ = some (Value.slice a_v_state_items x.state.items.length c_v_state_items) := cell_in x16
              have lx := lt_in x16
              go_wp2_with fail
              clear z21 z22 z23 z24 z25 z26 lx
              have hd16 := S16.data hS
              have hx16 : StateT.Is w16 S [Value.int IntKind.i64 x.state.les, Value.int IntKind.i64 x.state.tail.epoch, Value.int IntKind.i64 x.state.tail.n, Value.slice a_v_state_log x.state.log.length c_v_state_log, Value.slice a_v_state_lasts x.state.lasts.length c_v_state_lasts, Value.slice a_v_state_items x.state.items.length c_v_state_items] x.state := ⟨_, _, _, rfl, i18, i19, i20, l3.heap (fun _ _ h => EntryT.Is.heap h) (fun _ h => h) hd16, l4.heap (fun _ _ h => LastT.Is.heap h) (fun _ h => h) hd16, l5.heap (fun _ _ h => ItemT.Is.heap h) (fun _ h => h) hd16⟩
              refine (putState_c (S := S) S16.own (fun k hk => ⟨Nat.lt_of_lt_of_le (hS k hk).1 S16.kept.size, fun hh => by rcases S16.new k hh with h' | h'; exact (hS k hk).2 h'; exact absurd (hS k hk).1 (by omega)⟩) x.state hx16 (by have := S16.len; simp only [List.length_append, List.length_nil, encI_length, bB_length, leB_length, encT_length, encBy_length] at this hm; omega)).mono ?_
              rintro e w17 ⟨v17, rfl, hG17⟩
              obtain ⟨L17, g17, S17⟩ := S16.then hG17
              obtain ⟨a17, c17, rfl, -, -⟩ := S17.own.shape
              have x17 : w17.heap[w.heap.size]? = some (Obj.cells #[Value.int IntKind.i64 x.kind, Value.int IntKind.i64 x.src.kind, Value.int IntKind.i64 x.src.id, Value.int IntKind.i64 x.dst.kind, Value.int IntKind.i64 x.dst.id, Value.int IntKind.i64 x.boot, Value.int IntKind.i64 x.epoch, Value.int IntKind.i64 x.pg.pool, Value.int IntKind.i64 x.pg.seed, Value.int IntKind.i64 x.client, Value.int IntKind.i64 x.number, Value.int IntKind.i64 x.ballot, Value.slice a_v_slots x.slots.length c_v_slots, Value.slice a_v_incs x.incs.length c_v_incs, Value.slice a_v_changes x.changes.length c_v_changes, Value.int IntKind.i64 x.info.les, Value.int IntKind.i64 x.info.head.epoch, Value.int IntKind.i64 x.info.head.n, Value.int IntKind.i64 x.info.tail.epoch, Value.int IntKind.i64 x.info.tail.n, Value.int IntKind.i64 x.info.born, Value.int IntKind.i64 x.state.les, Value.int IntKind.i64 x.state.tail.epoch, Value.int IntKind.i64 x.state.tail.n, Value.slice a_v_state_log x.state.log.length c_v_state_log, Value.slice a_v_state_lasts x.state.lasts.length c_v_state_lasts, Value.slice a_v_state_items x.state.items.length c_v_state_items, Value.int IntKind.i64 x.entry.version.epoch, Value.int IntKind.i64 x.entry.version.n, Value.bool x.entry.remove, Value.int IntKind.i64 x.entry.errno, Value.string x.entry.name, Value.int IntKind.i64 x.entry.client, Value.int IntKind.i64 x.entry.number, Value.string x.object.name, Value.int IntKind.i64 x.object.version.epoch, Value.int IntKind.i64 x.object.version.n, Value.slice a_v_object_data x.object.data.length c_v_object_data, Value.int IntKind.i64 x.op.kind, Value.string x.op.name, Value.slice a_v_op_data x.op.data.length c_v_op_data, Value.int IntKind.i64 x.op.expect.epoch, Value.int IntKind.i64 x.op.expect.n, Value.slice a_v_items x.items.length c_v_items, Value.slice a_v_names x.names.length c_v_names, Value.int IntKind.i64 x.errno] 48) := (hG17.old _ (lt_in x16) (fun hh => S16.own.ne x16 (by decide) _ hh rfl)).trans x16
              have z27 : w17.cell? ⟨w.heap.size, 27, none⟩ = some (Value.int IntKind.i64 x.entry.version.epoch) := cell_in x17
              have z28 : w17.cell? ⟨w.heap.size, 28, none⟩ = some (Value.int IntKind.i64 x.entry.version.n) := cell_in x17
              have z29 : w17.cell? ⟨w.heap.size, 29, none⟩ = some (Value.bool x.entry.remove) := cell_in x17
              have z30 : w17.cell? ⟨w.heap.size, 30, none⟩ = some (Value.int IntKind.i64 x.entry.errno) := cell_in x17
              have z31 : w17.cell? ⟨w.heap.size, 31, none⟩ = some (Value.string x.entry.name) := cell_in x17
              have z32 : w17.cell? ⟨w.heap.size, 32, none⟩ = some (Value.int IntKind.i64 x.entry.client) := cell_in x17
              have z33 : w17.cell? ⟨w.heap.size, 33, none⟩ = some (Value.int IntKind.i64 x.entry.number) := cell_in x17
              have lx := lt_in x17
              go_wp2_with fail
              clear z27 z28 z29 z30 z31 z32 z33 lx
              refine (putEntry_c S17.own x.entry ⟨i21, i22, i23, i24, i25⟩ (by have := S17.len; simp only [List.length_append, List.length_nil, encI_length, bB_length, leB_length, encT_length, encBy_length] at this hm; simp only [EntryT.enc, List.length_append, List.length_nil, encI_length, bB_length, leB_length, encT_length, encBy_length] at this hm ⊢; omega)).mono ?_
              rintro e w18 ⟨v18, rfl, hG18⟩
              obtain ⟨L18, g18, S18⟩ := S17.then hG18
              obtain ⟨a18, c18, rfl, -, -⟩ := S18.own.shape
              have x18 : w18.heap[w.heap.size]? = some (Obj.cells #[Value.int IntKind.i64 x.kind, Value.int IntKind.i64 x.src.kind, Value.int IntKind.i64 x.src.id, Value.int IntKind.i64 x.dst.kind, Value.int IntKind.i64 x.dst.id, Value.int IntKind.i64 x.boot, Value.int IntKind.i64 x.epoch, Value.int IntKind.i64 x.pg.pool, Value.int IntKind.i64 x.pg.seed, Value.int IntKind.i64 x.client, Value.int IntKind.i64 x.number, Value.int IntKind.i64 x.ballot, Value.slice a_v_slots x.slots.length c_v_slots, Value.slice a_v_incs x.incs.length c_v_incs, Value.slice a_v_changes x.changes.length c_v_changes, Value.int IntKind.i64 x.info.les, Value.int IntKind.i64 x.info.head.epoch, Value.int IntKind.i64 x.info.head.n, Value.int IntKind.i64 x.info.tail.epoch, Value.int IntKind.i64 x.info.tail.n, Value.int IntKind.i64 x.info.born, Value.int IntKind.i64 x.state.les, Value.int IntKind.i64 x.state.tail.epoch, Value.int IntKind.i64 x.state.tail.n, Value.slice a_v_state_log x.state.log.length c_v_state_log, Value.slice a_v_state_lasts x.state.lasts.length c_v_state_lasts, Value.slice a_v_state_items x.state.items.length c_v_state_items, Value.int IntKind.i64 x.entry.version.epoch, Value.int IntKind.i64 x.entry.version.n, Value.bool x.entry.remove, Value.int IntKind.i64 x.entry.errno, Value.string x.entry.name, Value.int IntKind.i64 x.entry.client, Value.int IntKind.i64 x.entry.number, Value.string x.object.name, Value.int IntKind.i64 x.object.version.epoch, Value.int IntKind.i64 x.object.version.n, Value.slice a_v_object_data x.object.data.length c_v_object_data, Value.int IntKind.i64 x.op.kind, Value.string x.op.name, Value.slice a_v_op_data x.op.data.length c_v_op_data, Value.int IntKind.i64 x.op.expect.epoch, Value.int IntKind.i64 x.op.expect.n, Value.slice a_v_items x.items.length c_v_items, Value.slice a_v_names x.names.length c_v_names, Value.int IntKind.i64 x.errno] 48) := (hG18.old _ (lt_in x17) (fun hh => S17.own.ne x17 (by decide) _ hh rfl)).trans x17
              have z34 : w18.cell? ⟨w.heap.size, 34, none⟩ = some (Value.string x.object.name) := cell_in x18
              have z35 : w18.cell? ⟨w.heap.size, 35, none⟩ = some (Value.int IntKind.i64 x.object.version.epoch) := cell_in x18
              have z36 : w18.cell? ⟨w.heap.size, 36, none⟩ = some (Value.int IntKind.i64 x.object.version.n) := cell_in x18
              have z37 : w18.cell? ⟨w.heap.size, 37, none⟩ = some (Value.slice a_v_object_data x.object.data.length c_v_object_data) := cell_in x18
              have lx := lt_in x18
              go_wp2_with fail
              clear z34 z35 z36 z37 lx
              have hd18 := S18.data hS
              have hx18 : ObjectT.Is w18 S [Value.string x.object.name, Value.int IntKind.i64 x.object.version.epoch, Value.int IntKind.i64 x.object.version.n, Value.slice a_v_object_data x.object.data.length c_v_object_data] x.object := ⟨_, rfl, i26, i27, l6.heap (fun _ _ h => byteIs_stable _ _ _ _ _ _ h (fun _ h => h) hd18) (fun _ h => h) hd18⟩
              refine (putObject_c (S := S) S18.own (fun k hk => ⟨Nat.lt_of_lt_of_le (hS k hk).1 S18.kept.size, fun hh => by rcases S18.new k hh with h' | h'; exact (hS k hk).2 h'; exact absurd (hS k hk).1 (by omega)⟩) x.object hx18 (by have := S18.len; simp only [List.length_append, List.length_nil, encI_length, bB_length, leB_length, encT_length, encBy_length] at this hm; omega)).mono ?_
              rintro e w19 ⟨v19, rfl, hG19⟩
              obtain ⟨L19, g19, S19⟩ := S18.then hG19
              obtain ⟨a19, c19, rfl, -, -⟩ := S19.own.shape
              have x19 : w19.heap[w.heap.size]? = some (Obj.cells #[Value.int IntKind.i64 x.kind, Value.int IntKind.i64 x.src.kind, Value.int IntKind.i64 x.src.id, Value.int IntKind.i64 x.dst.kind, Value.int IntKind.i64 x.dst.id, Value.int IntKind.i64 x.boot, Value.int IntKind.i64 x.epoch, Value.int IntKind.i64 x.pg.pool, Value.int IntKind.i64 x.pg.seed, Value.int IntKind.i64 x.client, Value.int IntKind.i64 x.number, Value.int IntKind.i64 x.ballot, Value.slice a_v_slots x.slots.length c_v_slots, Value.slice a_v_incs x.incs.length c_v_incs, Value.slice a_v_changes x.changes.length c_v_changes, Value.int IntKind.i64 x.info.les, Value.int IntKind.i64 x.info.head.epoch, Value.int IntKind.i64 x.info.head.n, Value.int IntKind.i64 x.info.tail.epoch, Value.int IntKind.i64 x.info.tail.n, Value.int IntKind.i64 x.info.born, Value.int IntKind.i64 x.state.les, Value.int IntKind.i64 x.state.tail.epoch, Value.int IntKind.i64 x.state.tail.n, Value.slice a_v_state_log x.state.log.length c_v_state_log, Value.slice a_v_state_lasts x.state.lasts.length c_v_state_lasts, Value.slice a_v_state_items x.state.items.length c_v_state_items, Value.int IntKind.i64 x.entry.version.epoch, Value.int IntKind.i64 x.entry.version.n, Value.bool x.entry.remove, Value.int IntKind.i64 x.entry.errno, Value.string x.entry.name, Value.int IntKind.i64 x.entry.client, Value.int IntKind.i64 x.entry.number, Value.string x.object.name, Value.int IntKind.i64 x.object.version.epoch, Value.int IntKind.i64 x.object.version.n, Value.slice a_v_object_data x.object.data.length c_v_object_data, Value.int IntKind.i64 x.op.kind, Value.string x.op.name, Value.slice a_v_op_data x.op.data.length c_v_op_data, Value.int IntKind.i64 x.op.expect.epoch, Value.int IntKind.i64 x.op.expect.n, Value.slice a_v_items x.items.length c_v_items, Value.slice a_v_names x.names.length c_v_names, Value.int IntKind.i64 x.errno] 48) := (hG19.old _ (lt_in x18) (fun hh => S18.own.ne x18 (by decide) _ hh rfl)).trans x18
              have z38 : w19.cell? ⟨w.heap.size, 38, none⟩ = some (Value.int IntKind.i64 x.op.kind) := cell_in x19
              have z39 : w19.cell? ⟨w.heap.size, 39, none⟩ = some (Value.string x.op.name) := cell_in x19
              have z40 : w19.cell? ⟨w.heap.size, 40, none⟩ = some (Value.slice a_v_op_data x.op.data.length c_v_op_data) := cell_in x19
              have z41 : w19.cell? ⟨w.heap.size, 41, none⟩ = some (Value.int IntKind.i64 x.op.expect.epoch) := cell_in x19
              have z42 : w19.cell? ⟨w.heap.size, 42, none⟩ = some (Value.int IntKind.i64 x.op.expect.n) := cell_in x19
              have lx := lt_in x19
              go_wp2_with fail
              clear z38 z39 z40 z41 z42 lx
              have hd19 := S19.data hS
              have hx19 : OpT.Is w19 S [Value.int IntKind.i64 x.op.kind, Value.string x.op.name, Value.slice a_v_op_data x.op.data.length c_v_op_data, Value.int IntKind.i64 x.op.expect.epoch, Value.int IntKind.i64 x.op.expect.n] x.op := ⟨_, rfl, i28, i29, i30, l7.heap (fun _ _ h => byteIs_stable _ _ _ _ _ _ h (fun _ h => h) hd19) (fun _ h => h) hd19⟩
              refine (putOp_c (S := S) S19.own (fun k hk => ⟨Nat.lt_of_lt_of_le (hS k hk).1 S19.kept.size, fun hh => by rcases S19.new k hh with h' | h'; exact (hS k hk).2 h'; exact absurd (hS k hk).1 (by omega)⟩) x.op hx19 (by have := S19.len; simp only [List.length_append, List.length_nil, encI_length, bB_length, leB_length, encT_length, encBy_length] at this hm; omega)).mono ?_
              rintro e w20 ⟨v20, rfl, hG20⟩
              obtain ⟨L20, g20, S20⟩ := S19.then hG20
              obtain ⟨a20, c20, rfl, -, -⟩ := S20.own.shape
              have x20 : w20.heap[w.heap.size]? = some (Obj.cells #[Value.int IntKind.i64 x.kind, Value.int IntKind.i64 x.src.kind, Value.int IntKind.i64 x.src.id, Value.int IntKind.i64 x.dst.kind, Value.int IntKind.i64 x.dst.id, Value.int IntKind.i64 x.boot, Value.int IntKind.i64 x.epoch, Value.int IntKind.i64 x.pg.pool, Value.int IntKind.i64 x.pg.seed, Value.int IntKind.i64 x.client, Value.int IntKind.i64 x.number, Value.int IntKind.i64 x.ballot, Value.slice a_v_slots x.slots.length c_v_slots, Value.slice a_v_incs x.incs.length c_v_incs, Value.slice a_v_changes x.changes.length c_v_changes, Value.int IntKind.i64 x.info.les, Value.int IntKind.i64 x.info.head.epoch, Value.int IntKind.i64 x.info.head.n, Value.int IntKind.i64 x.info.tail.epoch, Value.int IntKind.i64 x.info.tail.n, Value.int IntKind.i64 x.info.born, Value.int IntKind.i64 x.state.les, Value.int IntKind.i64 x.state.tail.epoch, Value.int IntKind.i64 x.state.tail.n, Value.slice a_v_state_log x.state.log.length c_v_state_log, Value.slice a_v_state_lasts x.state.lasts.length c_v_state_lasts, Value.slice a_v_state_items x.state.items.length c_v_state_items, Value.int IntKind.i64 x.entry.version.epoch, Value.int IntKind.i64 x.entry.version.n, Value.bool x.entry.remove, Value.int IntKind.i64 x.entry.errno, Value.string x.entry.name, Value.int IntKind.i64 x.entry.client, Value.int IntKind.i64 x.entry.number, Value.string x.object.name, Value.int IntKind.i64 x.object.version.epoch, Value.int IntKind.i64 x.object.version.n, Value.slice a_v_object_data x.object.data.length c_v_object_data, Value.int IntKind.i64 x.op.kind, Value.string x.op.name, Value.slice a_v_op_data x.op.data.length c_v_op_data, Value.int IntKind.i64 x.op.expect.epoch, Value.int IntKind.i64 x.op.expect.n, Value.slice a_v_items x.items.length c_v_items, Value.slice a_v_names x.names.length c_v_names, Value.int IntKind.i64 x.errno] 48) := (hG20.old _ (lt_in x19) (fun hh => S19.own.ne x19 (by decide) _ hh rfl)).trans x19
              have z43 : w20.cell? ⟨w.heap.size, 43, none⟩ = some (Value.slice a_v_items x.items.length c_v_items) := cell_in x20
              have lx := lt_in x20
              go_wp2_with fail
              clear z43 lx
              refine (countRef_c S20.own x.items.length (by have := S20.len; simp only [List.length_append, List.length_nil, encI_length, bB_length, leB_length, encT_length, encBy_length] at this hm; omega)).mono ?_
              rintro e w21 ⟨v21, rfl, hG21⟩
              obtain ⟨L21, g21, S21⟩ := S20.then hG21
              obtain ⟨a21, c21, rfl, -, -⟩ := S21.own.shape
              have x21 : w21.heap[w.heap.size]? = some (Obj.cells #[Value.int IntKind.i64 x.kind, Value.int IntKind.i64 x.src.kind, Value.int IntKind.i64 x.src.id, Value.int IntKind.i64 x.dst.kind, Value.int IntKind.i64 x.dst.id, Value.int IntKind.i64 x.boot, Value.int IntKind.i64 x.epoch, Value.int IntKind.i64 x.pg.pool, Value.int IntKind.i64 x.pg.seed, Value.int IntKind.i64 x.client, Value.int IntKind.i64 x.number, Value.int IntKind.i64 x.ballot, Value.slice a_v_slots x.slots.length c_v_slots, Value.slice a_v_incs x.incs.length c_v_incs, Value.slice a_v_changes x.changes.length c_v_changes, Value.int IntKind.i64 x.info.les, Value.int IntKind.i64 x.info.head.epoch, Value.int IntKind.i64 x.info.head.n, Value.int IntKind.i64 x.info.tail.epoch, Value.int IntKind.i64 x.info.tail.n, Value.int IntKind.i64 x.info.born, Value.int IntKind.i64 x.state.les, Value.int IntKind.i64 x.state.tail.epoch, Value.int IntKind.i64 x.state.tail.n, Value.slice a_v_state_log x.state.log.length c_v_state_log, Value.slice a_v_state_lasts x.state.lasts.length c_v_state_lasts, Value.slice a_v_state_items x.state.items.length c_v_state_items, Value.int IntKind.i64 x.entry.version.epoch, Value.int IntKind.i64 x.entry.version.n, Value.bool x.entry.remove, Value.int IntKind.i64 x.entry.errno, Value.string x.entry.name, Value.int IntKind.i64 x.entry.client, Value.int IntKind.i64 x.entry.number, Value.string x.object.name, Value.int IntKind.i64 x.object.version.epoch, Value.int IntKind.i64 x.object.version.n, Value.slice a_v_object_data x.object.data.length c_v_object_data, Value.int IntKind.i64 x.op.kind, Value.string x.op.name, Value.slice a_v_op_data x.op.data.length c_v_op_data, Value.int IntKind.i64 x.op.expect.epoch, Value.int IntKind.i64 x.op.expect.n, Value.slice a_v_items x.items.length c_v_items, Value.slice a_v_names x.names.length c_v_names, Value.int IntKind.i64 x.errno] 48) := (hG21.old _ (lt_in x20) (fun hh => S20.own.ne x20 (by decide) _ hh rfl)).trans x20
              have z43 : w21.cell? ⟨w.heap.size, 43, none⟩ = some (Value.slice a_v_items x.items.length c_v_items) := cell_in x21
              have lx := lt_in x21
              go_wp2
              clear z43 lx
              go_loopw [127, 0] (fun i o w' => ∃ (k : Nat) (L : List UInt8) (gL : Option Nat), k ≤ x.items.length ∧ i = .int .i64 k ∧ Out w w' o out g (([] ++ encI x.kind ++ x.src.enc ++ x.dst.enc ++ encI x.boot ++ encI x.epoch ++ x.pg.enc ++ encI x.client ++ encI x.number ++ encI x.ballot ++ leB 4 x.slots.length ++ x.slots.flatMap SlotT.enc ++ leB 4 x.incs.length ++ x.incs.flatMap IncT.enc ++ leB 4 x.changes.length ++ x.changes.flatMap ChangeT.enc ++ x.info.enc ++ x.state.enc ++ x.entry.enc ++ x.object.enc ++ x.op.enc ++ leB 4 x.items.length) ++ (x.items.take k).flatMap ItemT.enc) L gL ∧ w'.heap[w.heap.size]? = some (Obj.cells #[Value.int IntKind.i64 x.kind, Value.int IntKind.i64 x.src.kind, Value.int IntKind.i64 x.src.id, Value.int IntKind.i64 x.dst.kind, Value.int IntKind.i64 x.dst.id, Value.int IntKind.i64 x.boot, Value.int IntKind.i64 x.epoch, Value.int IntKind.i64 x.pg.pool, Value.int IntKind.i64 x.pg.seed, Value.int IntKind.i64 x.client, Value.int IntKind.i64 x.number, Value.int IntKind.i64 x.ballot, Value.slice a_v_slots x.slots.length c_v_slots, Value.slice a_v_incs x.incs.length c_v_incs, Value.slice a_v_changes x.changes.length c_v_changes, Value.int IntKind.i64 x.info.les, Value.int IntKind.i64 x.info.head.epoch, Value.int IntKind.i64 x.info.head.n, Value.int IntKind.i64 x.info.tail.epoch, Value.int IntKind.i64 x.info.tail.n, Value.int IntKind.i64 x.info.born, Value.int IntKind.i64 x.state.les, Value.int IntKind.i64 x.state.tail.epoch, Value.int IntKind.i64 x.state.tail.n, Value.slice a_v_state_log x.state.log.length c_v_state_log, Value.slice a_v_state_lasts x.state.lasts.length c_v_state_lasts, Value.slice a_v_state_items x.state.items.length c_v_state_items, Value.int IntKind.i64 x.entry.version.epoch, Value.int IntKind.i64 x.entry.version.n, Value.bool x.entry.remove, Value.int IntKind.i64 x.entry.errno, Value.string x.entry.name, Value.int IntKind.i64 x.entry.client, Value.int IntKind.i64 x.entry.number, Value.string x.object.name, Value.int IntKind.i64 x.object.version.epoch, Value.int IntKind.i64 x.object.version.n, Value.slice a_v_object_data x.object.data.length c_v_object_data, Value.int IntKind.i64 x.op.kind, Value.string x.op.name, Value.slice a_v_op_data x.op.data.length c_v_op_data, Value.int IntKind.i64 x.op.expect.epoch, Value.int IntKind.i64 x.op.expect.n, Value.slice a_v_items x.items.length c_v_items, Value.slice a_v_names x.names.length c_v_names, Value.int IntKind.i64 x.errno] 48)) (fun i _ _ => x.items.length - (intOf i).toNat)
              case atStart => exact ⟨0, L21, g21, by omega, rfl, S21.cast (by simp), x21⟩
              case round =>
                obtain ⟨k, L, gL, hk, rfl, SL, xl⟩ := hrel
                by_cases hk2 : k < x.items.length
                · have hki : (k : Int) < (x.items.length : Int) := by omega
                  have hnl : x.items.length ≤ 9223372036854775807 := l8.small
                  have hd := SL.data hS
                  obtain ⟨b, off, cs, rfl, hb, hcl, hcell, hr⟩ := (l8.heap (fun _ _ h => ItemT.Is.heap h) (fun _ h => h) hd).at hk2
                  have hfl := flatMap_le ItemT.enc x.items (k + 1)
                  have hft := flatMap_take ItemT.enc x.items k hk2
                  rw [hft, List.length_append] at hfl
                  obtain ⟨e, he⟩ : ∃ e, e = x.items[k] := ⟨_, rfl⟩
                  rw [← he] at hr hft hfl
                  have HFT := Lib.hid hft
                  clear hft he hcl
                  obtain ⟨aL, cL, rfl, -, -⟩ := SL.own.shape
                  have hr0 := hr
                  obtain ⟨rfl, j0, j1, j2⟩ := hr
                  have y0 : wr.cell? ⟨b, off + k * 4, none⟩ = some (Value.string e.name) := hcell 0 (by omega)
                  have y1 : wr.cell? ⟨b, off + k * 4 + 1, none⟩ = some (Value.int IntKind.i64 e.version.epoch) := hcell 1 (by omega)
                  have y2 : wr.cell? ⟨b, off + k * 4 + 2, none⟩ = some (Value.int IntKind.i64 e.version.n) := hcell 2 (by omega)
                  have y3 : wr.cell? ⟨b, off + k * 4 + 3, none⟩ = some (Value.int IntKind.u32 (e.crc : Nat)) := hcell 3 (by omega)
                  go_wp2_with fail
                  have SA := SL.alloc (Obj.cells #[Value.string e.name, Value.int IntKind.i64 e.version.epoch, Value.int IntKind.i64 e.version.n, Value.int IntKind.u32 (e.crc : Nat)] 176)
                  have xa : (wr.alloc (Obj.cells #[Value.string e.name, Value.int IntKind.i64 e.version.epoch, Value.int IntKind.i64 e.version.n, Value.int IntKind.u32 (e.crc : Nat)] 176)).heap[w.heap.size]? = _ := (Below.heap_alloc _ _ _ (lt_in xl)).trans xl
                  generalize wr.alloc (Obj.cells #[Value.string e.name, Value.int IntKind.i64 e.version.epoch, Value.int IntKind.i64 e.version.n, Value.int IntKind.u32 (e.crc : Nat)] 176) = wa at SA xa ⊢
                  refine (putItem_c SA.own e ⟨j0, j1, j2⟩ (by have := SL.len; simp only [List.length_append, List.length_nil, encI_length, bB_length, leB_length, encT_length, encBy_length] at this hm hfl; omega)).mono ?_
                  rintro _ w9 ⟨v9, rfl, hG⟩
                  obtain ⟨L9, g9, S9⟩ := SA.then hG
                  have xl9 : w9.heap[w.heap.size]? = _ := (hG.old _ (lt_in xa) (fun hh => SA.own.ne xa (by decide) _ hh rfl)).trans xa
                  obtain ⟨a9, c9, rfl, -, -⟩ := S9.own.shape
                  have X9 := Lib.hid xl9
                  have HS9 := Lib.hid (S9.cast (more' := ([] ++ encI x.kind ++ x.src.enc ++ x.dst.enc ++ encI x.boot ++ encI x.epoch ++ x.pg.enc ++ encI x.client ++ encI x.number ++ encI x.ballot ++ leB 4 x.slots.length ++ x.slots.flatMap SlotT.enc ++ leB 4 x.incs.length ++ x.incs.flatMap IncT.enc ++ leB 4 x.changes.length ++ x.changes.flatMap ChangeT.enc ++ x.info.enc ++ x.state.enc ++ x.entry.enc ++ x.object.enc ++ x.op.enc ++ leB 4 x.items.length) ++ (x.items.take (k + 1)).flatMap ItemT.enc) (by rw [HFT.out, List.append_assoc]))
                  clear xl9 S9 hG
                  go_wp2
                  exact ⟨⟨k + 1, L9, g9, by omega, by simp, HS9.out, X9.out⟩, by simp [intOf]; omega⟩
                · obtain rfl : k = x.items.length := by omega
                  have S22 : Out w wr _ out g (([] ++ encI x.kind ++ x.src.enc ++ x.dst.enc ++ encI x.boot ++ encI x.epoch ++ x.pg.enc ++ encI x.client ++ encI x.number ++ encI x.ballot ++ leB 4 x.slots.length ++ x.slots.flatMap SlotT.enc ++ leB 4 x.incs.length ++ x.incs.flatMap IncT.enc ++ leB 4 x.changes.length ++ x.changes.flatMap ChangeT.enc ++ x.info.enc ++ x.state.enc ++ x.entry.enc ++ x.object.enc ++ x.op.enc ++ leB 4 x.items.length) ++ x.items.flatMap ItemT.enc) L gL := SL.cast (by rw [List.take_length])
                  obtain ⟨a22, c22, rfl, -, -⟩ := S22.own.shape
                  have x22 := xl
                  rename World => w22
                  clear SL xl
                  have z44 : w22.cell? ⟨w.heap.size, 44, none⟩ = some (Value.slice a_v_names x.names.length c_v_names) := cell_in x22
                  have lx := lt_in x22
                  go_wp2_with fail
                  clear z44 lx
                  refine (countRef_c S22.own x.names.length (by have := S22.len; simp only [List.length_append, List.length_nil, encI_length, bB_length, leB_length, encT_length, encBy_length] at this hm; omega)).mono ?_
                  rintro e w23 ⟨v23, rfl, hG23⟩
                  obtain ⟨L23, g23, S23⟩ := S22.then hG23
                  obtain ⟨a23, c23, rfl, -, -⟩ := S23.own.shape
                  have x23 : w23.heap[w.heap.size]? = some (Obj.cells #[Value.int IntKind.i64 x.kind, Value.int IntKind.i64 x.src.kind, Value.int IntKind.i64 x.src.id, Value.int IntKind.i64 x.dst.kind, Value.int IntKind.i64 x.dst.id, Value.int IntKind.i64 x.boot, Value.int IntKind.i64 x.epoch, Value.int IntKind.i64 x.pg.pool, Value.int IntKind.i64 x.pg.seed, Value.int IntKind.i64 x.client, Value.int IntKind.i64 x.number, Value.int IntKind.i64 x.ballot, Value.slice a_v_slots x.slots.length c_v_slots, Value.slice a_v_incs x.incs.length c_v_incs, Value.slice a_v_changes x.changes.length c_v_changes, Value.int IntKind.i64 x.info.les, Value.int IntKind.i64 x.info.head.epoch, Value.int IntKind.i64 x.info.head.n, Value.int IntKind.i64 x.info.tail.epoch, Value.int IntKind.i64 x.info.tail.n, Value.int IntKind.i64 x.info.born, Value.int IntKind.i64 x.state.les, Value.int IntKind.i64 x.state.tail.epoch, Value.int IntKind.i64 x.state.tail.n, Value.slice a_v_state_log x.state.log.length c_v_state_log, Value.slice a_v_state_lasts x.state.lasts.length c_v_state_lasts, Value.slice a_v_state_items x.state.items.length c_v_state_items, Value.int IntKind.i64 x.entry.version.epoch, Value.int IntKind.i64 x.entry.version.n, Value.bool x.entry.remove, Value.int IntKind.i64 x.entry.errno, Value.string x.entry.name, Value.int IntKind.i64 x.entry.client, Value.int IntKind.i64 x.entry.number, Value.string x.object.name, Value.int IntKind.i64 x.object.version.epoch, Value.int IntKind.i64 x.object.version.n, Value.slice a_v_object_data x.object.data.length c_v_object_data, Value.int IntKind.i64 x.op.kind, Value.string x.op.name, Value.slice a_v_op_data x.op.data.length c_v_op_data, Value.int IntKind.i64 x.op.expect.epoch, Value.int IntKind.i64 x.op.expect.n, Value.slice a_v_items x.items.length c_v_items, Value.slice a_v_names x.names.length c_v_names, Value.int IntKind.i64 x.errno] 48) := (hG23.old _ (lt_in x22) (fun hh => S22.own.ne x22 (by decide) _ hh rfl)).trans x22
                  have z44 : w23.cell? ⟨w.heap.size, 44, none⟩ = some (Value.slice a_v_names x.names.length c_v_names) := cell_in x23
                  have lx := lt_in x23
                  go_wp2
                  clear z44 lx
                  go_loopw [143, 0] (fun i o w' => ∃ (k : Nat) (L : List UInt8) (gL : Option Nat), k ≤ x.names.length ∧ i = .int .i64 k ∧ Out w w' o out g (([] ++ encI x.kind ++ x.src.enc ++ x.dst.enc ++ encI x.boot ++ encI x.epoch ++ x.pg.enc ++ encI x.client ++ encI x.number ++ encI x.ballot ++ leB 4 x.slots.length ++ x.slots.flatMap SlotT.enc ++ leB 4 x.incs.length ++ x.incs.flatMap IncT.enc ++ leB 4 x.changes.length ++ x.changes.flatMap ChangeT.enc ++ x.info.enc ++ x.state.enc ++ x.entry.enc ++ x.object.enc ++ x.op.enc ++ leB 4 x.items.length ++ x.items.flatMap ItemT.enc ++ leB 4 x.names.length) ++ (x.names.take k).flatMap encT) L gL ∧ w'.heap[w.heap.size]? = some (Obj.cells #[Value.int IntKind.i64 x.kind, Value.int IntKind.i64 x.src.kind, Value.int IntKind.i64 x.src.id, Value.int IntKind.i64 x.dst.kind, Value.int IntKind.i64 x.dst.id, Value.int IntKind.i64 x.boot, Value.int IntKind.i64 x.epoch, Value.int IntKind.i64 x.pg.pool, Value.int IntKind.i64 x.pg.seed, Value.int IntKind.i64 x.client, Value.int IntKind.i64 x.number, Value.int IntKind.i64 x.ballot, Value.slice a_v_slots x.slots.length c_v_slots, Value.slice a_v_incs x.incs.length c_v_incs, Value.slice a_v_changes x.changes.length c_v_changes, Value.int IntKind.i64 x.info.les, Value.int IntKind.i64 x.info.head.epoch, Value.int IntKind.i64 x.info.head.n, Value.int IntKind.i64 x.info.tail.epoch, Value.int IntKind.i64 x.info.tail.n, Value.int IntKind.i64 x.info.born, Value.int IntKind.i64 x.state.les, Value.int IntKind.i64 x.state.tail.epoch, Value.int IntKind.i64 x.state.tail.n, Value.slice a_v_state_log x.state.log.length c_v_state_log, Value.slice a_v_state_lasts x.state.lasts.length c_v_state_lasts, Value.slice a_v_state_items x.state.items.length c_v_state_items, Value.int IntKind.i64 x.entry.version.epoch, Value.int IntKind.i64 x.entry.version.n, Value.bool x.entry.remove, Value.int IntKind.i64 x.entry.errno, Value.string x.entry.name, Value.int IntKind.i64 x.entry.client, Value.int IntKind.i64 x.entry.number, Value.string x.object.name, Value.int IntKind.i64 x.object.version.epoch, Value.int IntKind.i64 x.object.version.n, Value.slice a_v_object_data x.object.data.length c_v_object_data, Value.int IntKind.i64 x.op.kind, Value.string x.op.name, Value.slice a_v_op_data x.op.data.length c_v_op_data, Value.int IntKind.i64 x.op.expect.epoch, Value.int IntKind.i64 x.op.expect.n, Value.slice a_v_items x.items.length c_v_items, Value.slice a_v_names x.names.length c_v_names, Value.int IntKind.i64 x.errno] 48)) (fun i _ _ => x.names.length - (intOf i).toNat)
                  case atStart => exact ⟨0, L23, g23, by omega, rfl, S23.cast (by simp), x23⟩
                  case round =>
                    obtain ⟨k, L, gL, hk, rfl, SL, xl⟩ := hrel
                    by_cases hk2 : k < x.names.length
                    · have hki : (k : Int) < (x.names.length : Int) := by omega
                      have hnl : x.names.length ≤ 9223372036854775807 := l9.small
                      have hd := SL.data hS
                      obtain ⟨b, off, cs, rfl, hb, hcl, hcell, hr⟩ := (l9.heap (fun _ _ h => textIs_stable _ _ _ _ _ _ h (fun _ h => h) hd) (fun _ h => h) hd).at hk2
                      have hfl := flatMap_le encT x.names (k + 1)
                      have hft := flatMap_take encT x.names k hk2
                      rw [hft, List.length_append] at hfl
                      obtain ⟨e, he⟩ : ∃ e, e = x.names[k] := ⟨_, rfl⟩
                      rw [← he] at hr hft hfl
                      have HFT := Lib.hid hft
                      clear hft he hcl
                      obtain ⟨aL, cL, rfl, -, -⟩ := SL.own.shape
                      obtain rfl := hr
                      have y0 := hcell 0 (by omega)
                      simp only [Nat.mul_one, Nat.add_zero, List.getElem?_cons_zero] at y0
                      have hcv := Go.Lib.run_convert_string_bytes (P := Tryz.prog) wr 9 22 5 e Tryz.underlying9 Tryz.underlying22 Tryz.underlying5
                      have hKB := bytesWorld_kept (fun _ => False) wr 5 e
                      have hRB := bytesWorld_reads wr 5 e (by unfold maxLen; simp only [List.length_append, List.length_nil, encI_length, bB_length, leB_length, encT_length, encBy_length] at hm hfl; omega)
                      generalize Go.Lib.bytesWorld wr 5 e = wb at hcv hKB hRB
                      obtain ⟨cap, hcap⟩ : ∃ cap, cap = grownCap wr e.size 0 5 := ⟨_, rfl⟩
                      rw [← hcap] at hcv hRB
                      clear hcap
                      have len : e.data.toList.length = e.size := by simp
                      go_wp2_with fail
                      have SA : Out w wb _ out g _ _ _ := ⟨SL.own.kept hKB (fun _ _ h => h), SL.eq, SL.kept.trans (hKB.mono (fun _ _ h => h.elim)), SL.new⟩
                      have xa := (hKB.block _ (lt_in xl) (fun h => h)).trans xl
                      have hne : ∀ k, some wr.heap.size = some k → gL ≠ some k := fun k hk hg => by
                        cases hk
                        exact absurd (SL.own.lt _ hg) (by omega)
                      rw [len] at hRB
                      clear hcv
                      refine (bytesRef_c (bs := e.data.toList) SA.own (by rw [len]; exact hRB) hne (by rw [len]; have := SL.len; simp only [List.length_append, List.length_nil, encI_length, bB_length, leB_length, encT_length, encBy_length] at this hm hfl; omega)).mono ?_
                      rw [len]
                      rintro _ w9 ⟨v9, rfl, hG⟩
                      obtain ⟨L9, g9, S9⟩ := SA.then hG
                      have xl9 : w9.heap[w.heap.size]? = _ := (hG.old _ (lt_in xa) (fun hh => SA.own.ne xa (by decide) _ hh rfl)).trans xa
                      obtain ⟨a9, c9, rfl, -, -⟩ := S9.own.shape
                      have X9 := Lib.hid xl9
                      have HS9 := Lib.hid (S9.cast (more' := ([] ++ encI x.kind ++ x.src.enc ++ x.dst.enc ++ encI x.boot ++ encI x.epoch ++ x.pg.enc ++ encI x.client ++ encI x.number ++ encI x.ballot ++ leB 4 x.slots.length ++ x.slots.flatMap SlotT.enc ++ leB 4 x.incs.length ++ x.incs.flatMap IncT.enc ++ leB 4 x.changes.length ++ x.changes.flatMap ChangeT.enc ++ x.info.enc ++ x.state.enc ++ x.entry.enc ++ x.object.enc ++ x.op.enc ++ leB 4 x.items.length ++ x.items.flatMap ItemT.enc ++ leB 4 x.names.length) ++ (x.names.take (k + 1)).flatMap encT) (by rw [HFT.out, List.append_assoc]; rfl))
                      clear xl9 S9 hG
                      go_wp2
                      exact ⟨⟨k + 1, L9, g9, by omega, by simp, HS9.out, X9.out⟩, by simp [intOf]; omega⟩
                    · obtain rfl : k = x.names.length := by omega
                      have S24 : Out w wr _ out g (([] ++ encI x.kind ++ x.src.enc ++ x.dst.enc ++ encI x.boot ++ encI x.epoch ++ x.pg.enc ++ encI x.client ++ encI x.number ++ encI x.ballot ++ leB 4 x.slots.length ++ x.slots.flatMap SlotT.enc ++ leB 4 x.incs.length ++ x.incs.flatMap IncT.enc ++ leB 4 x.changes.length ++ x.changes.flatMap ChangeT.enc ++ x.info.enc ++ x.state.enc ++ x.entry.enc ++ x.object.enc ++ x.op.enc ++ leB 4 x.items.length ++ x.items.flatMap ItemT.enc ++ leB 4 x.names.length) ++ x.names.flatMap encT) L gL := SL.cast (by rw [List.take_length])
                      obtain ⟨a24, c24, rfl, -, -⟩ := S24.own.shape
                      have x24 := xl
                      rename World => w24
                      clear SL xl
                      have z45 : w24.cell? ⟨w.heap.size, 45, none⟩ = some (Value.int IntKind.i64 x.errno) := cell_in x24
                      have lx := lt_in x24
                      go_wp2_with fail
                      clear z45 lx
                      refine (int_c S24.own x.errno (by have := S24.len; simp only [List.length_append, List.length_nil, encI_length, bB_length, leB_length, encT_length, encBy_length] at this hm; omega)).mono ?_
                      rintro e w25 ⟨v25, rfl, hG25⟩
                      obtain ⟨L25, g25, S25⟩ := S24.then hG25
                      obtain ⟨a25, c25, rfl, -, -⟩ := S25.own.shape
                      have x25 : w25.heap[w.heap.size]? = some (Obj.cells #[Value.int IntKind.i64 x.kind, Value.int IntKind.i64 x.src.kind, Value.int IntKind.i64 x.src.id, Value.int IntKind.i64 x.dst.kind, Value.int IntKind.i64 x.dst.id, Value.int IntKind.i64 x.boot, Value.int IntKind.i64 x.epoch, Value.int IntKind.i64 x.pg.pool, Value.int IntKind.i64 x.pg.seed, Value.int IntKind.i64 x.client, Value.int IntKind.i64 x.number, Value.int IntKind.i64 x.ballot, Value.slice a_v_slots x.slots.length c_v_slots, Value.slice a_v_incs x.incs.length c_v_incs, Value.slice a_v_changes x.changes.length c_v_changes, Value.int IntKind.i64 x.info.les, Value.int IntKind.i64 x.info.head.epoch, Value.int IntKind.i64 x.info.head.n, Value.int IntKind.i64 x.info.tail.epoch, Value.int IntKind.i64 x.info.tail.n, Value.int IntKind.i64 x.info.born, Value.int IntKind.i64 x.state.les, Value.int IntKind.i64 x.state.tail.epoch, Value.int IntKind.i64 x.state.tail.n, Value.slice a_v_state_log x.state.log.length c_v_state_log, Value.slice a_v_state_lasts x.state.lasts.length c_v_state_lasts, Value.slice a_v_state_items x.state.items.length c_v_state_items, Value.int IntKind.i64 x.entry.version.epoch, Value.int IntKind.i64 x.entry.version.n, Value.bool x.entry.remove, Value.int IntKind.i64 x.entry.errno, Value.string x.entry.name, Value.int IntKind.i64 x.entry.client, Value.int IntKind.i64 x.entry.number, Value.string x.object.name, Value.int IntKind.i64 x.object.version.epoch, Value.int IntKind.i64 x.object.version.n, Value.slice a_v_object_data x.object.data.length c_v_object_data, Value.int IntKind.i64 x.op.kind, Value.string x.op.name, Value.slice a_v_op_data x.op.data.length c_v_op_data, Value.int IntKind.i64 x.op.expect.epoch, Value.int IntKind.i64 x.op.expect.n, Value.slice a_v_items x.items.length c_v_items, Value.slice a_v_names x.names.length c_v_names, Value.int IntKind.i64 x.errno] 48) := (hG25.old _ (lt_in x24) (fun hh => S24.own.ne x24 (by decide) _ hh rfl)).trans x24
                      go_wp2
                      go_ret
                      exact ⟨_, rfl, S25.done⟩
end Go.Proofs.YtmbjealliinpdaaGreat
end

section

namespace Go.Proofs.YtmbjealliinpdaaGreat
open Go.RowKit
def pNode : Pr NodeT := fun bs => (pI bs).bind fun y0 => (pI y0.2).bind fun y1 => some (⟨y0.1, y1.1⟩, y1.2)
def NodeT.ok (x : NodeT) : Prop := in64 x.kind ∧ in64 x.id
theorem lawNode : Law pNode NodeT.enc NodeT.ok := by
  refine ⟨fun x rest hok => ?_, fun bs x rest h => ?_, fun x => by simp only [NodeT.enc, List.length_append, List.length_nil, encI_length, bB_length, leB_length, encT_length, encBy_length]; omega⟩
  · obtain ⟨o0, o1⟩ := hok
    simp only [pNode, NodeT.enc, List.nil_append, List.append_assoc]
    rw [lawI.enc _ _ o0]
    simp only [Option.bind_some]
    rw [lawI.enc _ _ o1]
    simp only [Option.bind_some]
  · simp only [pNode] at h
    obtain ⟨⟨x0, r0⟩, h0, h⟩ := Option.bind_eq_some_iff.1 h
    obtain ⟨⟨x1, r1⟩, h1, h⟩ := Option.bind_eq_some_iff.1 h
    simp only [Option.some.injEq, Prod.mk.injEq] at h
    obtain ⟨rfl, rfl⟩ := h
    obtain ⟨e0, o0⟩ := lawI.dec _ _ _ h0
    obtain ⟨e1, o1⟩ := lawI.dec _ _ _ h1
    simp only at e1
    exact ⟨by rw [e0, e1]; simp only [NodeT.enc, List.nil_append, List.append_assoc], o0, o1⟩
theorem NodeT.stable : Stable NodeT.Is := fun _ _ _ _ _ _ h _ _ => NodeT.Is.heap h
theorem NodeT.Is.ok {w : World} {S : Nat → Prop} {cs : List Value} {x : NodeT} (h : NodeT.Is w S cs x) (hl : x.enc.length < 4294967296) : x.ok := by
  obtain ⟨rfl, i0, i1⟩ := h
  simp only [NodeT.enc, List.length_append, List.length_nil, encI_length, bB_length, leB_length, encT_length, encBy_length] at hl
  exact ⟨i0, i1⟩
def pSlot : Pr SlotT := fun bs => (pI bs).bind fun y0 => (pI y0.2).bind fun y1 => (pB y1.2).bind fun y2 => some (⟨y0.1, y1.1, y2.1⟩, y2.2)
def SlotT.ok (x : SlotT) : Prop := in64 x.slot ∧ in64 x.ballot ∧ x.value.length < 4294967296
theorem lawSlot : Law pSlot SlotT.enc SlotT.ok := by
  refine ⟨fun x rest hok => ?_, fun bs x rest h => ?_, fun x => by simp only [SlotT.enc, List.length_append, List.length_nil, encI_length, bB_length, leB_length, encT_length, encBy_length]; omega⟩
  · obtain ⟨o0, o1, o2⟩ := hok
    simp only [pSlot, SlotT.enc, List.nil_append, List.append_assoc]
    rw [lawI.enc _ _ o0]
    simp only [Option.bind_some]
    rw [lawI.enc _ _ o1]
    simp only [Option.bind_some]
    rw [lawB.enc _ _ o2]
    simp only [Option.bind_some]
  · simp only [pSlot] at h
    obtain ⟨⟨x0, r0⟩, h0, h⟩ := Option.bind_eq_some_iff.1 h
    obtain ⟨⟨x1, r1⟩, h1, h⟩ := Option.bind_eq_some_iff.1 h
    obtain ⟨⟨x2, r2⟩, h2, h⟩ := Option.bind_eq_some_iff.1 h
    simp only [Option.some.injEq, Prod.mk.injEq] at h
    obtain ⟨rfl, rfl⟩ := h
    obtain ⟨e0, o0⟩ := lawI.dec _ _ _ h0
    obtain ⟨e1, o1⟩ := lawI.dec _ _ _ h1
    obtain ⟨e2, o2⟩ := lawB.dec _ _ _ h2
    simp only at e1 e2
    exact ⟨by rw [e0, e1, e2]; simp only [SlotT.enc, List.nil_append, List.append_assoc], o0, o1, o2⟩
theorem SlotT.stable : Stable SlotT.Is := fun _ _ _ _ _ _ h h1 h2 => SlotT.Is.heap h h1 h2
theorem SlotT.Is.ok {w : World} {S : Nat → Prop} {cs : List Value} {x : SlotT} (h : SlotT.Is w S cs x) (hl : x.enc.length < 4294967296) : x.ok := by
  obtain ⟨v_value, rfl, i0, i1, l0⟩ := h
  simp only [SlotT.enc, List.length_append, List.length_nil, encI_length, bB_length, leB_length, encT_length, encBy_length] at hl
  exact ⟨i0, i1, by omega⟩
def pObject : Pr ObjectT := fun bs => (pT bs).bind fun y0 => (pVersion y0.2).bind fun y1 => (pB y1.2).bind fun y2 => some (⟨y0.1, y1.1, y2.1⟩, y2.2)
def ObjectT.ok (x : ObjectT) : Prop := x.name.size < 4294967296 ∧ VersionT.ok x.version ∧ x.data.length < 4294967296
theorem lawObject : Law pObject ObjectT.enc ObjectT.ok := by
  refine ⟨fun x rest hok => ?_, fun bs x rest h => ?_, fun x => by simp only [ObjectT.enc, List.length_append, List.length_nil, encI_length, bB_length, leB_length, encT_length, encBy_length]; omega⟩
  · obtain ⟨o0, o1, o2⟩ := hok
    simp only [pObject, ObjectT.enc, List.nil_append, List.append_assoc]
    rw [lawT.enc _ _ o0]
    simp only [Option.bind_some]
    rw [lawVersion.enc _ _ o1]
    simp only [Option.bind_some]
    rw [lawB.enc _ _ o2]
    simp only [Option.bind_some]
  · simp only [pObject] at h
    obtain ⟨⟨x0, r0⟩, h0, h⟩ := Option.bind_eq_some_iff.1 h
    obtain ⟨⟨x1, r1⟩, h1, h⟩ := Option.bind_eq_some_iff.1 h
    obtain ⟨⟨x2, r2⟩, h2, h⟩ := Option.bind_eq_some_iff.1 h
    simp only [Option.some.injEq, Prod.mk.injEq] at h
    obtain ⟨rfl, rfl⟩ := h
    obtain ⟨e0, o0⟩ := lawT.dec _ _ _ h0
    obtain ⟨e1, o1⟩ := lawVersion.dec _ _ _ h1
    obtain ⟨e2, o2⟩ := lawB.dec _ _ _ h2
    simp only at e1 e2
    exact ⟨by rw [e0, e1, e2]; simp only [ObjectT.enc, List.nil_append, List.append_assoc], o0, o1, o2⟩
theorem ObjectT.stable : Stable ObjectT.Is := fun _ _ _ _ _ _ h h1 h2 => ObjectT.Is.heap h h1 h2
theorem ObjectT.Is.ok {w : World} {S : Nat → Prop} {cs : List Value} {x : ObjectT} (h : ObjectT.Is w S cs x) (hl : x.enc.length < 4294967296) : x.ok := by
  obtain ⟨v_data, rfl, i0, i1, l0⟩ := h
  simp only [ObjectT.enc, VersionT.enc, List.length_append, List.length_nil, encI_length, bB_length, leB_length, encT_length, encBy_length] at hl
  exact ⟨by omega, ⟨i0, i1⟩, by omega⟩
def pInfo : Pr InfoT := fun bs => (pI bs).bind fun y0 => (pVersion y0.2).bind fun y1 => (pVersion y1.2).bind fun y2 => (pI y2.2).bind fun y3 => some (⟨y0.1, y1.1, y2.1, y3.1⟩, y3.2)
def InfoT.ok (x : InfoT) : Prop := in64 x.les ∧ VersionT.ok x.head ∧ VersionT.ok x.tail ∧ in64 x.born
theorem lawInfo : Law pInfo InfoT.enc InfoT.ok := by
  refine ⟨fun x rest hok => ?_, fun bs x rest h => ?_, fun x => by simp only [InfoT.enc, List.length_append, List.length_nil, encI_length, bB_length, leB_length, encT_length, encBy_length]; omega⟩
  · obtain ⟨o0, o1, o2, o3⟩ := hok
    simp only [pInfo, InfoT.enc, List.nil_append, List.append_assoc]
    rw [lawI.enc _ _ o0]
    simp only [Option.bind_some]
    rw [lawVersion.enc _ _ o1]
    simp only [Option.bind_some]
    rw [lawVersion.enc _ _ o2]
    simp only [Option.bind_some]
    rw [lawI.enc _ _ o3]
    simp only [Option.bind_some]
  · simp only [pInfo] at h
    obtain ⟨⟨x0, r0⟩, h0, h⟩ := Option.bind_eq_some_iff.1 h
    obtain ⟨⟨x1, r1⟩, h1, h⟩ := Option.bind_eq_some_iff.1 h
    obtain ⟨⟨x2, r2⟩, h2, h⟩ := Option.bind_eq_some_iff.1 h
    obtain ⟨⟨x3, r3⟩, h3, h⟩ := Option.bind_eq_some_iff.1 h
    simp only [Option.some.injEq, Prod.mk.injEq] at h
    obtain ⟨rfl, rfl⟩ := h
    obtain ⟨e0, o0⟩ := lawI.dec _ _ _ h0
    obtain ⟨e1, o1⟩ := lawVersion.dec _ _ _ h1
    obtain ⟨e2, o2⟩ := lawVersion.dec _ _ _ h2
    obtain ⟨e3, o3⟩ := lawI.dec _ _ _ h3
    simp only at e1 e2 e3
    exact ⟨by rw [e0, e1, e2, e3]; simp only [InfoT.enc, List.nil_append, List.append_assoc], o0, o1, o2, o3⟩
theorem InfoT.stable : Stable InfoT.Is := fun _ _ _ _ _ _ h _ _ => InfoT.Is.heap h
theorem InfoT.Is.ok {w : World} {S : Nat → Prop} {cs : List Value} {x : InfoT} (h : InfoT.Is w S cs x) (hl : x.enc.length < 4294967296) : x.ok := by
  obtain ⟨rfl, i0, i1, i2, i3, i4, i5⟩ := h
  simp only [InfoT.enc, VersionT.enc, List.length_append, List.length_nil, encI_length, bB_length, leB_length, encT_length, encBy_length] at hl
  exact ⟨i0, ⟨i1, i2⟩, ⟨i3, i4⟩, i5⟩
def pOp : Pr OpT := fun bs => (pI bs).bind fun y0 => (pT y0.2).bind fun y1 => (pB y1.2).bind fun y2 => (pVersion y2.2).bind fun y3 => some (⟨y0.1, y1.1, y2.1, y3.1⟩, y3.2)
def OpT.ok (x : OpT) : Prop := in64 x.kind ∧ x.name.size < 4294967296 ∧ x.data.length < 4294967296 ∧ VersionT.ok x.expect
theorem lawOp : Law pOp OpT.enc OpT.ok := by
  refine ⟨fun x rest hok => ?_, fun bs x rest h => ?_, fun x => by simp only [OpT.enc, List.length_append, List.length_nil, encI_length, bB_length, leB_length, encT_length, encBy_length]; omega⟩
  · obtain ⟨o0, o1, o2, o3⟩ := hok
    simp only [pOp, OpT.enc, List.nil_append, List.append_assoc]
    rw [lawI.enc _ _ o0]
    simp only [Option.bind_some]
    rw [lawT.enc _ _ o1]
    simp only [Option.bind_some]
    rw [lawB.enc _ _ o2]
    simp only [Option.bind_some]
    rw [lawVersion.enc _ _ o3]
    simp only [Option.bind_some]
  · simp only [pOp] at h
    obtain ⟨⟨x0, r0⟩, h0, h⟩ := Option.bind_eq_some_iff.1 h
    obtain ⟨⟨x1, r1⟩, h1, h⟩ := Option.bind_eq_some_iff.1 h
    obtain ⟨⟨x2, r2⟩, h2, h⟩ := Option.bind_eq_some_iff.1 h
    obtain ⟨⟨x3, r3⟩, h3, h⟩ := Option.bind_eq_some_iff.1 h
    simp only [Option.some.injEq, Prod.mk.injEq] at h
    obtain ⟨rfl, rfl⟩ := h
    obtain ⟨e0, o0⟩ := lawI.dec _ _ _ h0
    obtain ⟨e1, o1⟩ := lawT.dec _ _ _ h1
    obtain ⟨e2, o2⟩ := lawB.dec _ _ _ h2
    obtain ⟨e3, o3⟩ := lawVersion.dec _ _ _ h3
    simp only at e1 e2 e3
    exact ⟨by rw [e0, e1, e2, e3]; simp only [OpT.enc, List.nil_append, List.append_assoc], o0, o1, o2, o3⟩
theorem OpT.stable : Stable OpT.Is := fun _ _ _ _ _ _ h h1 h2 => OpT.Is.heap h h1 h2
theorem OpT.Is.ok {w : World} {S : Nat → Prop} {cs : List Value} {x : OpT} (h : OpT.Is w S cs x) (hl : x.enc.length < 4294967296) : x.ok := by
  obtain ⟨v_data, rfl, i0, i1, i2, l0⟩ := h
  simp only [OpT.enc, VersionT.enc, List.length_append, List.length_nil, encI_length, bB_length, leB_length, encT_length, encBy_length] at hl
  exact ⟨i0, by omega, by omega, ⟨i1, i2⟩⟩
def pMsg : Pr MsgT := fun bs => (pI bs).bind fun y0 => (pNode y0.2).bind fun y1 => (pNode y1.2).bind fun y2 => (pI y2.2).bind fun y3 => (pI y3.2).bind fun y4 => (pPg y4.2).bind fun y5 => (pI y5.2).bind fun y6 => (pI y6.2).bind fun y7 => (pI y7.2).bind fun y8 => (pL pSlot y8.2).bind fun y9 => (pL pInc y9.2).bind fun y10 => (pL pChange y10.2).bind fun y11 => (pInfo y11.2).bind fun y12 => (pState y12.2).bind fun y13 => (pEntry y13.2).bind fun y14 => (pObject y14.2).bind fun y15 => (pOp y15.2).bind fun y16 => (pL pItem y16.2).bind fun y17 => (pL pT y17.2).bind fun y18 => (pI y18.2).bind fun y19 => some (⟨y0.1, y1.1, y2.1, y3.1, y4.1, y5.1, y6.1, y7.1, y8.1, y9.1, y10.1, y11.1, y12.1, y13.1, y14.1, y15.1, y16.1, y17.1, y18.1, y19.1⟩, y19.2)
def MsgT.ok (x : MsgT) : Prop := in64 x.kind ∧ NodeT.ok x.src ∧ NodeT.ok x.dst ∧ in64 x.boot ∧ in64 x.epoch ∧ PgT.ok x.pg ∧ in64 x.client ∧ in64 x.number ∧ in64 x.ballot ∧ okL SlotT.ok x.slots ∧ okL IncT.ok x.incs ∧ okL ChangeT.ok x.changes ∧ InfoT.ok x.info ∧ StateT.ok x.state ∧ EntryT.ok x.entry ∧ ObjectT.ok x.object ∧ OpT.ok x.op ∧ okL ItemT.ok x.items ∧ okL (fun s : ByteArray => s.size < 4294967296) x.names ∧ in64 x.errno
theorem lawMsg : Law pMsg MsgT.enc MsgT.ok := by
  refine ⟨fun x rest hok => ?_, fun bs x rest h => ?_, fun x => by (unfold MsgT.enc; simp only [List.length_append, List.length_nil, encI_length, bB_length, leB_length, encT_length, encBy_length]); omega⟩
  · obtain ⟨o0, o1, o2, o3, o4, o5, o6, o7, o8, o9, o10, o11, o12, o13, o14, o15, o16, o17, o18, o19⟩ := hok
    (unfold pMsg MsgT.enc; simp only [List.nil_append, List.append_assoc])
    rw [lawI.enc _ _ o0]
    simp only [Option.bind_some]
    rw [lawNode.enc _ _ o1]
    simp only [Option.bind_some]
    rw [lawNode.enc _ _ o2]
    simp only [Option.bind_some]
    rw [lawI.enc _ _ o3]
    simp only [Option.bind_some]
    rw [lawI.enc _ _ o4]
    simp only [Option.bind_some]
    rw [lawPg.enc _ _ o5]
    simp only [Option.bind_some]
    rw [lawI.enc _ _ o6]
    simp only [Option.bind_some]
    rw [lawI.enc _ _ o7]
    simp only [Option.bind_some]
    rw [lawI.enc _ _ o8]
    simp only [Option.bind_some]
    rw [pL_enc lawSlot _ _ o9]
    simp only [Option.bind_some]
    rw [pL_enc lawInc _ _ o10]
    simp only [Option.bind_some]
    rw [pL_enc lawChange _ _ o11]
    simp only [Option.bind_some]
    rw [lawInfo.enc _ _ o12]
    simp only [Option.bind_some]
    rw [lawState.enc _ _ o13]
    simp only [Option.bind_some]
    rw [lawEntry.enc _ _ o14]
    simp only [Option.bind_some]
    rw [lawObject.enc _ _ o15]
    simp only [Option.bind_some]
    rw [lawOp.enc _ _ o16]
    simp only [Option.bind_some]
    rw [pL_enc lawItem _ _ o17]
    simp only [Option.bind_some]
    rw [pL_enc lawT _ _ o18]
    simp only [Option.bind_some]
    rw [lawI.enc _ _ o19]
    simp only [Option.bind_some]
  · (unfold pMsg at h)
    obtain ⟨⟨x0, r0⟩, h0, h⟩ := Option.bind_eq_some_iff.1 h
    obtain ⟨⟨x1, r1⟩, h1, h⟩ := Option.bind_eq_some_iff.1 h
    obtain ⟨⟨x2, r2⟩, h2, h⟩ := Option.bind_eq_some_iff.1 h
    obtain ⟨⟨x3, r3⟩, h3, h⟩ := Option.bind_eq_some_iff.1 h
    obtain ⟨⟨x4, r4⟩, h4, h⟩ := Option.bind_eq_some_iff.1 h
    obtain ⟨⟨x5, r5⟩, h5, h⟩ := Option.bind_eq_some_iff.1 h
    obtain ⟨⟨x6, r6⟩, h6, h⟩ := Option.bind_eq_some_iff.1 h
    obtain ⟨⟨x7, r7⟩, h7, h⟩ := Option.bind_eq_some_iff.1 h
    obtain ⟨⟨x8, r8⟩, h8, h⟩ := Option.bind_eq_some_iff.1 h
    obtain ⟨⟨x9, r9⟩, h9, h⟩ := Option.bind_eq_some_iff.1 h
    obtain ⟨⟨x10, r10⟩, h10, h⟩ := Option.bind_eq_some_iff.1 h
    obtain ⟨⟨x11, r11⟩, h11, h⟩ := Option.bind_eq_some_iff.1 h
    obtain ⟨⟨x12, r12⟩, h12, h⟩ := Option.bind_eq_some_iff.1 h
    obtain ⟨⟨x13, r13⟩, h13, h⟩ := Option.bind_eq_some_iff.1 h
    obtain ⟨⟨x14, r14⟩, h14, h⟩ := Option.bind_eq_some_iff.1 h
    obtain ⟨⟨x15, r15⟩, h15, h⟩ := Option.bind_eq_some_iff.1 h
    obtain ⟨⟨x16, r16⟩, h16, h⟩ := Option.bind_eq_some_iff.1 h
    obtain ⟨⟨x17, r17⟩, h17, h⟩ := Option.bind_eq_some_iff.1 h
    obtain ⟨⟨x18, r18⟩, h18, h⟩ := Option.bind_eq_some_iff.1 h
    obtain ⟨⟨x19, r19⟩, h19, h⟩ := Option.bind_eq_some_iff.1 h
    simp only [Option.some.injEq, Prod.mk.injEq] at h
    obtain ⟨rfl, rfl⟩ := h
    obtain ⟨e0, o0⟩ := lawI.dec _ _ _ h0
    obtain ⟨e1, o1⟩ := lawNode.dec _ _ _ h1
    obtain ⟨e2, o2⟩ := lawNode.dec _ _ _ h2
    obtain ⟨e3, o3⟩ := lawI.dec _ _ _ h3
    obtain ⟨e4, o4⟩ := lawI.dec _ _ _ h4
    obtain ⟨e5, o5⟩ := lawPg.dec _ _ _ h5
    obtain ⟨e6, o6⟩ := lawI.dec _ _ _ h6
    obtain ⟨e7, o7⟩ := lawI.dec _ _ _ h7
    obtain ⟨e8, o8⟩ := lawI.dec _ _ _ h8
    obtain ⟨e9, o9⟩ := pL_dec lawSlot h9
    obtain ⟨e10, o10⟩ := pL_dec lawInc h10
    obtain ⟨e11, o11⟩ := pL_dec lawChange h11
    obtain ⟨e12, o12⟩ := lawInfo.dec _ _ _ h12
    obtain ⟨e13, o13⟩ := lawState.dec _ _ _ h13
    obtain ⟨e14, o14⟩ := lawEntry.dec _ _ _ h14
    obtain ⟨e15, o15⟩ := lawObject.dec _ _ _ h15
    obtain ⟨e16, o16⟩ := lawOp.dec _ _ _ h16
    obtain ⟨e17, o17⟩ := pL_dec lawItem h17
    obtain ⟨e18, o18⟩ := pL_dec lawT h18
    obtain ⟨e19, o19⟩ := lawI.dec _ _ _ h19
    simp only at e1 e2 e3 e4 e5 e6 e7 e8 e9 e10 e11 e12 e13 e14 e15 e16 e17 e18 e19
    exact ⟨by rw [e0, e1, e2, e3, e4, e5, e6, e7, e8, e9, e10, e11, e12, e13, e14, e15, e16, e17, e18, e19]; (unfold MsgT.enc; simp only [List.nil_append, List.append_assoc]), o0, o1, o2, o3, o4, o5, o6, o7, o8, o9, o10, o11, o12, o13, o14, o15, o16, o17, o18, o19⟩
theorem MsgT.stable : Stable MsgT.Is := fun _ _ _ _ _ _ h h1 h2 => MsgT.Is.heap h h1 h2
theorem MsgT.Is.ok {w : World} {S : Nat → Prop} {cs : List Value} {x : MsgT} (h : MsgT.Is w S cs x) (hl : x.enc.length < 4294967296) : x.ok := by
  obtain ⟨v_slots, v_incs, v_changes, v_state_log, v_state_lasts, v_state_items, v_object_data, v_op_data, v_items, v_names, rfl, i0, i1, i2, i3, i4, i5, i6, i7, i8, i9, i10, i11, i12, i13, i14, i15, i16, i17, i18, i19, i20, i21, i22, i23, i24, i25, i26, i27, i28, i29, i30, i31, l0, l1, l2, l3, l4, l5, l6, l7, l8, l9⟩ := h
  (unfold MsgT.enc at hl; simp only [NodeT.enc, PgT.enc, InfoT.enc, VersionT.enc, StateT.enc, EntryT.enc, ObjectT.enc, OpT.enc, List.length_append, List.length_nil, encI_length, bB_length, leB_length, encT_length, encBy_length] at hl)
  exact ⟨i0, ⟨i1, i2⟩, ⟨i3, i4⟩, i5, i6, ⟨i7, i8⟩, i9, i10, i11, okL_of l0 (fun _ _ h hl => SlotT.Is.ok h hl) lawSlot.pos (by omega), okL_of l1 (fun _ _ h hl => IncT.Is.ok h hl) lawInc.pos (by omega), okL_of l2 (fun _ _ h hl => ChangeT.Is.ok h hl) lawChange.pos (by omega), ⟨i12, ⟨i13, i14⟩, ⟨i15, i16⟩, i17⟩, ⟨i18, ⟨i19, i20⟩, okL_of l3 (fun _ _ h hl => EntryT.Is.ok h hl) lawEntry.pos (by omega), okL_of l4 (fun _ _ h hl => LastT.Is.ok h hl) lawLast.pos (by omega), okL_of l5 (fun _ _ h hl => ItemT.Is.ok h hl) lawItem.pos (by omega)⟩, ⟨⟨i21, i22⟩, i23, by omega, i24, i25⟩, ⟨by omega, ⟨i26, i27⟩, by omega⟩, ⟨i28, by omega, by omega, ⟨i29, i30⟩⟩, okL_of l8 (fun _ _ h hl => ItemT.Is.ok h hl) lawItem.pos (by omega), okL_of l9 (fun _ _ h hl => by rw [encT_length] at hl; omega) lawT.pos (by omega), i31⟩
end Go.Proofs.YtmbjealliinpdaaGreat
end

section

namespace Go.Proofs.YtmbjealliinpdaaGreat
open Go.RowKit
theorem flagIs_stable : Stable flagIs := fun _ _ _ _ _ _ h _ _ => h
theorem sliceIs_stable {α : Type} {size : Nat} {R : World → (Nat → Prop) → List Value → α → Prop} (hR : Stable R) : Stable (sliceIs size R) := by
  rintro w w' S S' cs x ⟨v, rfl, h⟩ hS hk
  exact ⟨v, rfl, h.stable hR hS hk⟩
theorem intR_c {w : World} {q : Nat} {o : Option (List UInt8)} {g : Option Nat} (h : Dr w q o g) :
    Calls Tryz.prog 80 #[.pointer (some ⟨q, 0, none⟩)] w fun e w' => Kept (· = q) w w' ∧ ∃ N : Int, e = .returned (.int .i64 N) ∧ Dr w' q (After o pI) g ∧ (∀ x r, o.bind pI = some (x, r) → intIs w' (New w w') [.int .i64 N] x) := by
  refine (intD_c h).mono ?_
  rintro e w' ⟨k, N, rfl, d, hN⟩
  refine ⟨k, N, rfl, d, fun x r hx => ?_⟩
  rw [hN x r hx]
  obtain ⟨bs, -, hb⟩ := Option.bind_eq_some_iff.1 hx
  exact ⟨rfl, (lawI.dec _ _ _ hb).2⟩
theorem boolR_c {w : World} {q : Nat} {o : Option (List UInt8)} {g : Option Nat} (h : Dr w q o g) :
    Calls Tryz.prog 142 #[.pointer (some ⟨q, 0, none⟩)] w fun e w' => Kept (· = q) w w' ∧ ∃ N : Bool, e = .returned (.bool N) ∧ Dr w' q (After o pF) g ∧ (∀ x r, o.bind pF = some (x, r) → flagIs w' (New w w') [.bool N] x) := by
  refine (boolD_c h).mono ?_
  rintro e w' ⟨k, N, rfl, d, hN⟩
  refine ⟨k, N, rfl, d, fun x r hx => ?_⟩
  rw [hN x r hx]
  rfl
theorem wordR_c {w : World} {q : Nat} {o : Option (List UInt8)} {g : Option Nat} (h : Dr w q o g) :
    Calls Tryz.prog 131 #[.pointer (some ⟨q, 0, none⟩)] w fun e w' => Kept (· = q) w w' ∧ ∃ N : Nat, e = .returned (.int .u32 N) ∧ Dr w' q (After o (pW 4)) g ∧ (∀ x r, o.bind (pW 4) = some (x, r) → crcIs w' (New w w') [.int .u32 N] x) := by
  refine (wordD_c h).mono ?_
  rintro e w' ⟨k, N, hl, rfl, d, hN, -⟩
  refine ⟨k, N, rfl, d, fun x r hx => ?_⟩
  rw [← hN x r hx]
  exact ⟨rfl, hl⟩
theorem after_pT {o : Option (List UInt8)} : After o pT = After o pB := by
  cases o with
  | none => rfl
  | some bs => unfold After; show (pT bs).map _ = (pB bs).map _; unfold pT; cases pB bs <;> rfl
theorem own_slice {w : World} {v : Value} {l : List UInt8} {g : Option Nat} (h : Own w 5 1 v l.length (l.map bv) g) {S : Nat → Prop} (hg : ∀ k, g = some k → S k) : sliceIs 1 byteIs w S [v] l := by
  refine ⟨v, rfl, reads_list h.reads hg ?_⟩
  rintro a c rfl
  obtain ⟨a', c', he, h1, h2⟩ := h.shape
  simp only [Value.slice.injEq, true_and] at he
  rw [he.2]
  exact ⟨h1, h2⟩
theorem bytesR_c {w : World} {q : Nat} {o : Option (List UInt8)} {g : Option Nat} (h : Dr w q o g) (hgl : ∀ k, g = some k → k < w.heap.size) :
    Calls Tryz.prog 58 #[.pointer (some ⟨q, 0, none⟩)] w fun e w' => Kept (· = q) w w' ∧ ∃ (a : Option Addr) (n c : Nat) (s : ByteArray), e = .returned (.slice a n c) ∧ (convert 22 9 (.slice a n c)).run Tryz.prog w' = .ok (.string s) w' ∧ Dr w' q (After o pB) g ∧ Dr w' q (After o pT) g ∧ (∀ x r, o.bind pB = some (x, r) → sliceIs 1 byteIs w' (New w w') [.slice a n c] x) ∧ (∀ x r, o.bind pT = some (x, r) → textIs w' (New w w') [.string s] x) := by
  refine (bytesD_c h hgl).mono ?_
  rintro e w' ⟨k, v, l, g', rfl, own, hnew, d, hl⟩
  obtain ⟨a, c, rfl, -⟩ := own.shape
  refine ⟨k, a, l.length, c, ⟨l.toArray⟩, rfl, own.reads.string_run Tryz.underlying22 Tryz.underlying5 Tryz.underlying9, d, by rw [after_pT]; exact d, fun x r hx => ?_, fun x r hx => ?_⟩
  · rw [← hl x r hx]
    exact own_slice own (fun k hk => ⟨hnew k hk, own.lt k hk⟩)
  · obtain ⟨bs, ho, hb⟩ := Option.bind_eq_some_iff.1 hx
    unfold pT at hb
    obtain ⟨⟨y, r'⟩, h1, h2⟩ := Option.bind_eq_some_iff.1 hb
    simp only [Option.some.injEq, Prod.mk.injEq] at h2
    rw [hl y r' (Option.bind_eq_some_iff.2 ⟨bs, ho, h1⟩), ← h2.1]
    rfl
theorem info_sz {t : TypeId} {z : Array Value} {n : Nat} (h : (Tryz.prog.info? t).map (fun i => (i.size, i.zero)) = some (n, some (.agg z))) : ∃ i, Tryz.prog.info? t = some i ∧ i.size = n ∧ i.zero = some (.agg z) := by
  cases hq : Tryz.prog.info? t with
  | none => simp [hq] at h
  | some i =>
    simp [hq] at h
    exact ⟨i, rfl, h.1, h.2⟩
theorem zero_run {t : TypeId} {z : Array Value} {n : Nat} (h : (Tryz.prog.info? t).map (fun i => (i.size, i.zero)) = some (n, some (.agg z))) (w : World) : (zeroValue t).run Tryz.prog w = .ok (.agg z) w := by
  obtain ⟨i, h1, -, h3⟩ := info_sz h
  simp [zeroValue, typeInfo, h1, h3]
theorem size_of {t : TypeId} {z : Array Value} {n : Nat} (h : (Tryz.prog.info? t).map (fun i => (i.size, i.zero)) = some (n, some (.agg z))) : (Tryz.prog.info? t).map (·.size) = some n := by
  obtain ⟨i, h1, h2, -⟩ := info_sz h
  rw [h1]; simp [h2]
theorem sz_int : (Tryz.prog.info? 3).map (·.size) = some 1 := by kernel_rfl
theorem sz_bool : (Tryz.prog.info? 4).map (·.size) = some 1 := by kernel_rfl
theorem sz_string : (Tryz.prog.info? 9).map (·.size) = some 1 := by kernel_rfl
theorem one1 (v : Value) (h : v.oneCell' = true) : ∀ u ∈ [v], u.oneCell' = true := by
  intro u hu
  rw [List.mem_singleton] at hu
  rw [hu]; exact h
theorem sz_errno : (Tryz.prog.info? 39).map (·.size) = some 1 := by kernel_rfl
theorem sz_u32 : (Tryz.prog.info? 174).map (·.size) = some 1 := by kernel_rfl
theorem sz_bytes : (Tryz.prog.info? 22).map (·.size) = some 1 := by kernel_rfl
end Go.Proofs.YtmbjealliinpdaaGreat
end

section

namespace Go.Proofs.YtmbjealliinpdaaGreat
open Go.RowKit
structure Ll {α : Type} (R : World → (Nat → Prop) → List Value → α → Prop) (size : Nat) (e : TypeId) (pr : Pr α) (w w1 w' : World) (q p : Nat) (t : TypeId) (z cur0 : Array Value) (g o1 : _) (oa : Option (List UInt8)) (cs : List Value) (D : World → Prop) (n k : Nat) (o : Option (List UInt8)) (v : Value) (cur : Array Value) (Ls : List (List Value)) (g' : Option Nat) : Prop where
  fl : Fl w w1 q p t z cur0 g o1 cs D
  dr : Dr w' q o g
  blk : w'.heap[p]? = some (.cells cur t)
  put : Put z 0 (cs ++ [v]) cur
  own : Own w' e size v Ls.length Ls.flatten g'
  lens : ∀ l ∈ Ls, l.length = size
  len : Ls.length ≤ k
  gnew : ∀ b, g' = some b → w1.heap.size ≤ b
  kept : Kept (fun i => i = q ∨ i = p) w1 w'
  bad : o = none → oa.bind (pL pr) = none
  good : ∀ r, o = some r → ∃ xs : List α, xs.length = k ∧ Ls.length = k ∧ oa.bind (pL pr) = (pN pr (n - k) r).bind (fun z => some (xs ++ z.1, z.2)) ∧ ∀ (i : Nat) (x : α), xs[i]? = some x → ∃ c, Ls[i]? = some c ∧ R w' (fun b => w1.heap.size ≤ b ∧ b < w'.heap.size ∧ g' ≠ some b) c x
theorem Fl.call {w w1 w2 : World} {q p : Nat} {t : TypeId} {z cur : Array Value} {g : Option Nat} {o o2 : Option (List UInt8)} {cs : List Value} {D : World → Prop} (h : Fl w w1 q p t z cur g o cs D) (k : Kept (· = q) w1 w2) (d : Dr w2 q o2 g) : Fl w w2 q p t z cur g o2 cs D := by
  have hne := h.ne
  have hs := h.size
  exact ⟨d, (k.block _ (lt_in h.blk) hne.1).trans h.blk, h.put, h.one, h.kept.trans k, (k.block _ (by omega) hne.2.1).trans h.res, h.new, h.ql, h.gl, fun w' hw => h.data w' ((k.mono (fun _ _ e => .inl e)).trans hw)⟩
theorem pL_of {α : Type} {pr : Pr α} {o : Option (List UInt8)} : o.bind (pL pr) = (o.bind pC).bind fun y => pN pr y.1 y.2 := by
  cases o <;> rfl
theorem Ll.start {α : Type} (R : World → (Nat → Prop) → List Value → α → Prop) (size : Nat) (e : TypeId) {pr : Pr α} {w w1 : World} {q p : Nat} {t : TypeId} {z cur : Array Value} {g : Option Nat} {oa : Option (List UInt8)} {cs : List Value} {D : World → Prop} {n : Nat}
    (h : Fl w w1 q p t z cur g (After oa pC) cs D) (hz : z[cs.length]? = some (.slice none 0 0)) (hn : ∀ x r, oa.bind pC = some (x, r) → n = x) :
    Ll R size e pr w w1 w1 q p t z cur g (After oa pC) oa cs D n 0 (After oa pC) (.slice none 0 0) cur [] none := by
  refine ⟨h, h.dr, h.blk, h.put.append (Put.same ?_), Own.nil _ _ _, (fun l hl => by cases hl), Nat.le_refl _, (fun b hb => by cases hb), Kept.refl _ _, fun ho => ?_, fun r hr => ⟨[], rfl, rfl, ?_, fun i x hx => by simp at hx⟩⟩
  · rw [h.put.other _ (by omega), Nat.zero_add]
    exact hz
  · rw [pL_of]
    unfold After at ho
    rw [Option.map_eq_none_iff.1 ho]
    rfl
  · rw [pL_of]
    unfold After at hr
    obtain ⟨⟨x, r'⟩, h1, h2⟩ := Option.map_eq_some_iff.1 hr
    have := hn _ _ h1
    subst this
    simp only at h2
    subst h2
    rw [h1, Nat.sub_zero]
    exact (bind_eta _).symm
section
variable {α : Type} {R : World → (Nat → Prop) → List Value → α → Prop} {size : Nat} {e : TypeId} {pr : Pr α} {w w1 wr : World} {q p : Nat} {t : TypeId} {z cur0 cur : Array Value} {g o1 : _} {oa o : Option (List UInt8)} {cs : List Value} {D : World → Prop} {n k : Nat} {v : Value} {Ls : List (List Value)} {g' : Option Nat}
theorem Ll.skip (h : Ll R size e pr w w1 wr q p t z cur0 g o1 oa cs D n k none v cur Ls g') : Ll R size e pr w w1 wr q p t z cur0 g o1 oa cs D n (k + 1) none v cur Ls g' :=
  ⟨h.fl, h.dr, h.blk, h.put, h.own, h.lens, Nat.le_succ_of_le h.len, h.gnew, h.kept, h.bad, fun r hr => by cases hr⟩
theorem Ll.shape (h : Ll R size e pr w w1 wr q p t z cur0 g o1 oa cs D n k o v cur Ls g') : ∃ a c, v = .slice a Ls.length c := by
  obtain ⟨a, c, hv, -⟩ := h.own.shape
  exact ⟨a, c, hv⟩
theorem Ll.cell (h : Ll R size e pr w w1 wr q p t z cur0 g o1 oa cs D n k o v cur Ls g') : cur[cs.length]? = some v := by
  have := h.put.at_ cs.length (by simp)
  rw [Nat.zero_add, List.getElem?_append_right (Nat.le_refl _)] at this
  simpa using this
theorem Ll.grow (hR : Stable R) {r : List UInt8} {w2 w4 w5 : World} {cs2 : List Value} {v5 : Value} {g5 : Option Nat} (h : Ll R size e pr w w1 wr q p t z cur0 g o1 oa cs D n k (some r) v cur Ls g') (hk : k < n)
    (k2 : Kept (· = q) wr w2) (d2 : Dr w2 q (After (some r) pr) g) (hl : cs2.length = size) (hF : ∀ x r', (some r).bind pr = some (x, r') → R w2 (New wr w2) cs2 x)
    (k4 : Kept (fun _ => False) w2 w4) (o5 : Own w5 e size v5 (Ls.length + 1) (Ls.flatten ++ cs2) g5) (k5 : Kept (fun i => g' = some i) w4 w5) (hg5 : ∀ i, g5 = some i → g' = some i ∨ w4.heap.size ≤ i) (off : Nat) (hoff : off = cs.length) :
    Ll R size e pr w w1 (w5.setCell ⟨p, off, none⟩ v5) q p t z cur0 g o1 oa cs D n (k + 1) (After (some r) pr) v5 (cur.setIfInBounds off v5) (Ls ++ [cs2]) g5 := by
  subst hoff
  have hne := h.fl.ne
  have sz1 := h.fl.size
  have new := h.fl.new
  have ql := h.fl.ql
  have s1 := h.kept.size
  have s2 := k2.size
  have s4 := k4.size
  have s5 := k5.size
  have lp := lt_in h.blk
  have s6 : (w5.setCell ⟨p, cs.length, none⟩ v5).heap.size = w5.heap.size := by simp [World.setCell]
  have ks : Kept (· = p) w5 (w5.setCell ⟨p, cs.length, none⟩ v5) := Kept.setCell _ _ _ rfl
  have hgp : g' ≠ some p := fun h' => by have := h.gnew p h'; omega
  have hgq : g' ≠ some q := fun h' => by have := h.gnew q h'; omega
  have hgr : ∀ i, g' = some i → i < wr.heap.size := h.own.lt
  have hg5w : ∀ i, g5 = some i → w1.heap.size ≤ i := fun i hi => by
    rcases hg5 i hi with h' | h'
    · exact h.gnew i h'
    · omega
  have b5 : w5.heap[p]? = some (.cells cur t) := by
    rw [k5.block _ (by omega) hgp, k4.block _ (by omega) (fun e => e), k2.block _ lp hne.1]
    exact h.blk
  have hlast : cs.length < cur.size := (Array.getElem?_eq_some_iff.1 h.cell).1
  have hput : Put z 0 (cs ++ [v5]) (cur.setIfInBounds cs.length v5) := by
    refine ⟨by rw [Array.size_setIfInBounds]; exact h.put.size, fun f hf => ?_, fun j hj => ?_⟩
    · rw [Nat.zero_add]
      simp only [List.length_append, List.length_singleton] at hf
      by_cases hf2 : f = cs.length
      · subst hf2
        rw [Array.getElem?_setIfInBounds_self_of_lt hlast, List.getElem?_append_right (Nat.le_refl _)]
        simp
      · rw [Array.getElem?_setIfInBounds_ne (by omega), List.getElem?_append_left (by omega)]
        have := h.put.at_ f (by simp; omega)
        rw [Nat.zero_add, List.getElem?_append_left (by omega)] at this
        exact this
    · simp only [List.length_append, List.length_singleton, Nat.zero_add] at hj
      rw [Array.getElem?_setIfInBounds_ne (by omega)]
      exact h.put.other j (by simp; omega)
  have d5 : Dr (w5.setCell ⟨p, cs.length, none⟩ v5) q (After (some r) pr) g := by
    refine ((d2.kept k4).kept k5 (fun e => hgq e) (fun i hi e => ?_)).kept ks hne.1.symm (fun i hi e => ?_)
    · have := h.fl.gl i hi; have := h.gnew i e; omega
    · have := h.fl.gl i hi; omega
  refine ⟨h.fl, d5, by rw [heap_setCell_same b5], hput, ?_, ?_, ?_, hg5w, ?_, fun ho => ?_, fun r' ho => ?_⟩
  · have := o5.kept ks (fun i hi e => by have := hg5w i hi; omega)
    rw [List.length_append, List.length_singleton, List.flatten_append]
    simpa using this
  · intro l hl'
    rcases List.mem_append.1 hl' with h' | h'
    · exact h.lens l h'
    · simp at h'; rw [h']; exact hl
  · rw [List.length_append]; have := h.len; simp; exact this
  · exact (((h.kept.thn k2 (fun i hi => .inl (.inl hi))).trans (k4.mono (fun _ _ e => e.elim))).thn k5 (fun i hi => .inr (h.gnew i hi))).trans (ks.mono (fun _ _ e => .inr e))
  · obtain ⟨xs, e1, e2, e3, e4⟩ := h.good r rfl
    have hp : pr r = none := by
      unfold After at ho
      exact Option.map_eq_none_iff.1 ho
    rw [e3, show n - k = (n - (k + 1)) + 1 by omega]
    simp only [pN]
    rw [hp]
    rfl
  · obtain ⟨xs, e1, e2, e3, e4⟩ := h.good r rfl
    unfold After at ho
    obtain ⟨⟨x, r2⟩, hp, hr⟩ := Option.map_eq_some_iff.1 ho
    simp only at hr
    subst hr
    refine ⟨xs ++ [x], by simp [e1], by simp [e2], ?_, fun i y hy => ?_⟩
    · rw [e3, show n - k = (n - (k + 1)) + 1 by omega]
      simp only [pN]
      have hp' : pr r = some (x, r2) := hp
      rw [hp']
      simp only [Option.bind_some]
      cases pN pr (n - (k + 1)) r2 with
      | none => rfl
      | some z => simp
    · by_cases hi : i < xs.length
      · rw [List.getElem?_append_left hi] at hy
        obtain ⟨ds, h1, h2⟩ := e4 i y hy
        refine ⟨ds, by rw [List.getElem?_append_left (by omega)]; exact h1, hR _ _ _ _ _ _ h2 ?_ ?_⟩
        · rintro b ⟨q1, q2, q3⟩
          refine ⟨q1, by omega, fun h' => ?_⟩
          rcases hg5 b h' with h'' | h''
          · exact q3 h''
          · omega
        · rintro b ⟨q1, q2, q3⟩
          rw [ks.block b (by omega) (by omega), k5.block b (by omega) q3, k4.block b (by omega) (fun e => e), k2.block b q2 (by omega)]
      · have hi2 : i - xs.length = 0 := by
          have := (List.getElem?_eq_some_iff.1 hy).1
          simp at this
          omega
        rw [List.getElem?_append_right (by omega), hi2] at hy
        simp at hy
        subst hy
        refine ⟨cs2, by rw [List.getElem?_append_right (by omega), e2, ← e1, hi2]; rfl, hR _ _ _ _ _ _ (hF x r2 hp) ?_ ?_⟩
        · rintro b ⟨q1, q2⟩
          refine ⟨by omega, by omega, fun h' => ?_⟩
          rcases hg5 b h' with h'' | h''
          · have := hgr b h''; omega
          · omega
        · rintro b ⟨q1, q2⟩
          rw [ks.block b (by omega) (by omega), k5.block b (by omega) (fun e => by have := hgr b e; omega), k4.block b (by omega) (fun e => e)]
theorem Ll.done (hR : Stable R) (h0 : 0 < size) (h : Ll R size e pr w w1 wr q p t z cur0 g o1 oa cs D n n o v cur Ls g') :
    Fl w wr q p t z cur g (After oa (pL pr)) (cs ++ [v]) (fun w' => D w' ∧ ∀ x r, oa.bind (pL pr) = some (x, r) → sliceIs size R w' (New w w') [v] x) := by
  have hne := h.fl.ne
  have sz1 := h.fl.size
  have new := h.fl.new
  have ql := h.fl.ql
  have s0 := h.fl.kept.size
  have s1 := h.kept.size
  have ho : After oa (pL pr) = o := by
    cases o with
    | none => exact after_none (h.bad rfl)
    | some r =>
      obtain ⟨xs, e1, e2, e3, e4⟩ := h.good r rfl
      rw [Nat.sub_self] at e3
      simp only [pN, Option.bind_some, List.append_nil] at e3
      exact after_some e3
  rw [ho]
  obtain ⟨a, c, rfl, hc, hm⟩ := h.own.shape
  refine ⟨h.dr, h.blk, h.put, fun u hu => ?_, h.fl.kept.thn h.kept (fun i hi => ?_), ?_, new, ql, h.fl.gl, fun w' hw => ⟨h.fl.data w' ?_, fun x r hx => ?_⟩⟩
  · rcases List.mem_append.1 hu with h' | h'
    · exact h.fl.one u h'
    · rw [List.mem_singleton] at h'; rw [h']; rfl
  · rcases hi with hi | hi
    · exact .inl hi
    · exact .inr (by omega)
  · rw [h.kept.block _ (by omega) (fun e => by rcases e with e | e <;> omega)]
    exact h.fl.res
  · exact (h.kept.mono (fun _ _ e => by rcases e with e | e; exact .inl e; exact .inr (.inl e))).trans hw
  · cases o with
    | none => rw [h.bad rfl] at hx; cases hx
    | some r' =>
      obtain ⟨xs, e1, e2, e3, e4⟩ := h.good r' rfl
      rw [Nat.sub_self] at e3
      simp only [pN, Option.bind_some, List.append_nil] at e3
      rw [e3] at hx
      simp only [Option.some.injEq, Prod.mk.injEq] at hx
      obtain ⟨rfl, rfl⟩ := hx
      have sw := hw.size
      refine ⟨_, rfl, a, c, by rw [e2, e1], by rw [e1, ← e2]; exact hc, hm, fun i x hx => ?_⟩
      obtain ⟨ds, h1, h2⟩ := e4 i x hx
      have hi : i < xs.length := (List.getElem?_eq_some_iff.1 hx).1
      have hdl : ds.length = size := h.lens ds (List.mem_of_getElem? h1)
      obtain ⟨b, off, cur9, hg9, ha9, -, -, hb9, hs9, hfl, hat⟩ := h.own.pos (by omega)
      have hnb := h.gnew b hg9
      refine ⟨b, off, ds, ha9, ⟨by omega, by have := lt_in hb9; omega⟩, hdl, fun f hf => ?_, hR _ _ _ _ _ _ h2 ?_ ?_⟩
      · have hb' : w'.heap[b]? = _ := (hw.block b (lt_in hb9) (fun e => by rcases e with e | e | e <;> omega)).trans hb9
        rw [cell_in hb', Nat.add_assoc, hat _ ?_]
        · exact flatten_get h.lens h1 f hf
        · rw [hfl]
          have : i + 1 ≤ Ls.length := by omega
          have := Nat.mul_le_mul_right size this
          rw [Nat.add_mul, Nat.one_mul] at this
          omega
      · rintro b' ⟨q1, q2, q3⟩
        exact ⟨by omega, by omega⟩
      · rintro b' ⟨q1, q2, q3⟩
        exact hw.block b' q2 (fun e => by rcases e with e | e | e <;> omega)
end
end Go.Proofs.YtmbjealliinpdaaGreat
end

section

namespace Go.Proofs.YtmbjealliinpdaaGreat
open Go.RowKit
theorem info_Inc : (Tryz.prog.info? 57).map (fun i => (i.zero, i.size, i.bytes)) = some (some (Value.agg #[Value.int IntKind.i64 0, Value.slice none 0 0]), 2, 32) := by kernel_rfl
theorem listIncG_c {w : World} {c p o : Nat} {bs : List UInt8} {g : Option Nat} {cur : Array Value} {t : TypeId} (h : Rd w c bs g) (hgl : ∀ k, g = some k → k < w.heap.size) (hb : Blk w p cur t c g) (hz : cur[o]? = some (.slice none 0 0)) :
    Calls Tryz.prog 68 #[.pointer (some ⟨c, 0, none⟩), .pointer (some ⟨p, o, none⟩), .func (.func 36) #[.pointer (some ⟨c, 0, none⟩)] #[]] w (Got (sliceIs 2 IncT.Is) (pL pInc) bs w c p o g cur t) := by
  obtain ⟨i0, hi0, hz0, hz1, hz2⟩ := info_all info_Inc
  have p0 : w.cell? ⟨p, o, none⟩ = some (.slice none 0 0) := (cell_in hb.heap).trans hz
  have hlp := lt_in hb.heap
  have hlc := h.lt
  go_enter Tryz.func68, Tryz.ntmps68
  go_wp2_with fail
  refine (countG_c h).mono ?_
  rintro e w1 ⟨k1, ⟨n, r1, hp1, rfl, h1⟩ | ⟨hp1, rfl⟩⟩
  rotate_left
  · exact ⟨rfl, k1.mono (fun _ _ h => .inl h), .inl ⟨by unfold pL; rw [hp1]; rfl, rfl, (hb.kept k1 hb.ne).was⟩⟩
  have hb1 := hb.kept k1 hb.ne
  have p1 : w1.cell? ⟨p, o, none⟩ = some (.slice none 0 0) := (cell_in hb1.heap).trans hz
  have f1 : w1.frozen? ⟨p, o, none⟩ = false := frozen_in hb1.heap
  have lp1 := lt_in hb1.heap
  have c2 : w1.cell? ⟨c, 2, none⟩ = some (.bool true) := by
    obtain ⟨vi, h2, -⟩ := h1.ex
    exact cell_in h2
  have lc1 := h1.lt
  have e1 := setCell_same' p1
  have L0 := Lst.start IncT.Is 2 57 hb1 hz k1
  have hn32 := (pC_some hp1).2.1
  have HP1 : Hid (pL pInc bs = pN pInc n r1) := Lib.hid (by unfold pL; rw [hp1]; rfl)
  clear p0 hb1 hp1
  go_wp2
  go_loopw [37] (fun i w' => ∃ (k : Nat) (v : Value) (xs : List IncT) (Ls : List (List Value)) (r : List UInt8) (g' : Option Nat), k ≤ n ∧ i = .int .i64 k ∧ xs.length = k ∧ Hid (pN pInc n r1 = (pN pInc (n - k) r).bind (fun z => some (xs ++ z.1, z.2))) ∧ Rd w' c r g ∧ Lst IncT.Is 2 57 w w' c p o g cur t v xs Ls g') (fun i _ => n - (intOf i).toNat)
  case atStart => exact ⟨0, _, [], [], r1, none, by omega, rfl, rfl, Lib.hid (by rw [Nat.sub_zero]; exact (bind_eta _).symm), h1, L0⟩
  case round =>
    obtain ⟨k, v, xs, Ls, r, g', hk, rfl, rfl, HP, hr, L⟩ := hrel
    by_cases hk2 : xs.length < n
    · have hki : (xs.length : Int) < (n : Int) := by omega
      obtain ⟨a, cp, rfl, hcp, -⟩ := L.own.shape
      obtain ⟨curp, hbp, hvp⟩ := L.cell
      have pr : wr.cell? ⟨p, o, none⟩ = some (.slice a xs.length cp) := (cell_in hbp).trans hvp
      have lpr := lt_in hbp
      have hsw := L.kept.size
      go_wp2_with fail
      have ka := Kept.alloc (fun _ => False) wr (Obj.cells #[Value.int IntKind.i64 0, Value.slice none 0 0] 57)
      have hq : (wr.alloc (Obj.cells #[Value.int IntKind.i64 0, Value.slice none 0 0] 57)).heap[wr.heap.size]? = some (Obj.cells #[Value.int IntKind.i64 0, Value.slice none 0 0] 57) := heap_alloc_new' _ _
      have ra : Rd (wr.alloc (Obj.cells #[Value.int IntKind.i64 0, Value.slice none 0 0] 57)) c r g := hr.kept ka
      have sa : (wr.alloc (Obj.cells #[Value.int IntKind.i64 0, Value.slice none 0 0] 57)).heap.size = wr.heap.size + 1 := by simp
      generalize wr.alloc (Obj.cells #[Value.int IntKind.i64 0, Value.slice none 0 0] 57) = wa at ka hq ra sa ⊢
      have bq : Blk wa wr.heap.size #[Value.int IntKind.i64 0, Value.slice none 0 0] 57 c g := ⟨hq, by omega, fun e => by have := hgl _ e; omega⟩
      refine (incG_c ra (fun k hk => by have := hgl k hk; omega) bq (by intro f hf; simp)).mono ?_
      rintro e w2 ⟨k2, ⟨hp2, rfl, -⟩ | ⟨x, r2, cur2, cs, hp2, rfl, h2, b2, put2, hx⟩⟩
      · exact ⟨rfl, (L.kept.trans (ka.mono (fun _ _ h => h.elim))).thn k2 (fun i hi => by rcases hi with rfl | rfl; exact .inl (.inl rfl); exact .inr hsw), .inl ⟨by rw [HP1.out]; exact pN_stop hk2 HP.out hp2, rfl, L.was.kept ka k2 (fun h => h) (fun h => by rcases h with h | h; exact hb.ne h; omega)⟩⟩
      have k02 : Kept (· = c) wr w2 := (ka.mono (fun _ _ h => h.elim)).thn k2 (fun i hi => by rcases hi with rfl | rfl; exact .inl rfl; exact .inr (Nat.le_refl _))
      have hxn : IncT.Is w2 (New wr w2) cs x := IncT.stable _ _ _ _ _ _ hx (fun k hk => ⟨by have := hk.1; omega, hk.2⟩) (fun _ _ => rfl)
      obtain ⟨uv_changes, rfl, -, m0⟩ := hx
      obtain ⟨au0, cu0, rfl, -⟩ := m0.shape
      have y0 : w2.cell? ⟨wr.heap.size, 0, none⟩ = some (Value.int IntKind.i64 x.epoch) := (cell_in b2.heap).trans (by have := put2.at_ 0 (by simp); simpa using this)
      have y1 : w2.cell? ⟨wr.heap.size, 1, none⟩ = some (Value.slice au0 x.changes.length cu0) := (cell_in b2.heap).trans (by have := put2.at_ 1 (by simp); simpa using this)
      have lq2 := lt_in b2.heap
      have HP2 := Lib.hid (pN_next hk2 HP.out hp2)
      have bp2 : w2.heap[p]? = some (.cells curp t) := (k02.block _ lpr hb.ne).trans hbp
      have HBP := Lib.hid bp2
      have lp2 := lt_in bp2
      have hpq : p ≠ wr.heap.size := by omega
      have own2 := L.own.kept k02 (fun k hk e => by have := L.new k hk; omega)
      clear ka hq ra bq hbp pr HP hp2 bp2
      go_wp2
      refine wp_region_ordJ (fun w' => w'.heap[p]? = some (.cells curp t)) [4] [0, 1, 2, 3] [5, 6] [7, 8] (by kernel_rfl) (by kernel_rfl) (fun _ _ d _ _ h => by cases d <;> exact h) (fun k => HBP.out) ?_
      simp only [sel, List.filterMap_cons, List.filterMap_nil, List.getElem?_cons_zero, List.getElem?_cons_succ]
      repeat (quiet_step (fail))
      refine wpQuiet_nil ?_
      refine wpHeld_step (fun K hK => ?_)
      go_simp
      refine ⟨_, fun _ _ => rfl, hK _ ?_⟩
      refine wpHeld_step (fun K hK => ?_)
      go_simp
      refine ⟨_, fun _ _ => rfl, hK _ ?_⟩
      refine wpHeld_step (fun K hK => ?_)
      go_simp
      refine ⟨_, fun _ _ => rfl, hK _ ?_⟩
      refine wpHeld_step (fun K hK => ?_)
      go_simp
      refine ⟨.slice a xs.length cp, fun w' h => (by
        have h1 := (cell_in (k := o) h).trans hvp
        have h2 := lt_in h
        clear h
        go_simp), hK _ ?_⟩
      refine wpHeld_nil ?_
      rintro _ ⟨nr, rfl⟩
      have kd := Kept.drewN (fun _ => False) w2 nr
      have Q3 : Hid ((w2.drewN nr).heap[p]? = some (.cells curp t)) := Lib.hid HBP.out
      generalize w2.drewN nr = w3 at kd Q3 ⊢
      refine wpListS_step (fun K hK => ?_)
      go_simp
      have hA : (w3.alloc (Obj.cells #[Value.int IntKind.i64 x.epoch, Value.slice au0 x.changes.length cu0] 57)).heap[p]? = some (.cells curp t) := (Below.heap_alloc _ _ _ (lt_in Q3.out)).trans Q3.out
      refine hK _ _ hA ?_
      clear hK
      have k34 := kd.al (Obj.cells #[Value.int IntKind.i64 x.epoch, Value.slice au0 x.changes.length cu0] 57)
      have r4 := reads_allocN w3 [Value.int IntKind.i64 x.epoch, Value.slice au0 x.changes.length cu0] 57 2 rfl
      generalize w3.alloc (Obj.cells #[Value.int IntKind.i64 x.epoch, Value.slice au0 x.changes.length cu0] 57) = w4 at hA k34 r4 ⊢
      have own4 := own2.kept k34 (fun _ _ h => h)
      refine wpListS_append_Own rfl _ _ 28 28 rfl 57 i0 (Value.agg #[Value.int IntKind.i64 0, Value.slice none 0 0]) 2 32 Tryz.underlying28 hi0 hz0 hz1 hz2 rfl rfl own4 rfl (r4.src Tryz.underlying28 (by intro u hu; simp only [List.mem_cons, List.not_mem_nil, or_false] at hu; rcases hu with rfl | rfl <;> rfl)) (by unfold maxLen; omega) (by omega) ?_
      intro a5 k5 w5 g5 hown5 hk5 hg5
      have hgp : g' ≠ some p := fun e => by have := L.new p e; omega
      have hA5 : w5.heap[p]? = _ := (hk5.block _ (lt_in hA) (fun h => hgp h)).trans hA
      refine ⟨hA5, ?_⟩
      refine wpListS_nil ?_
      have k04 : Kept (· = c) wr w4 := k02.trans (k34.mono (fun _ _ h => h.elim))
      have s4 := k34.size
      have hx4 : IncT.Is w4 (New wr w4) _ x := IncT.stable _ _ _ _ _ _ hxn (fun k hk => ⟨hk.1, by have := hk.2; omega⟩) (fun k hk => k34.block k hk.2 (fun h => h))
      have LN := Lib.hid (L.grow IncT.stable (o := o) hlp hlc k04 hx4 rfl hown5 hk5 hg5)
      have RN := Lib.hid (Lst.rd L (w2 := w2) (o := o) (v4 := .slice a5 (xs.length + 1) k5) hlc hgl (h2.kept k34) hk5)
      have f0 : w5.frozen? ⟨p, o, none⟩ = false := frozen_in hA5
      have z5 := (cell_in (k := o) hA5).trans hvp
      have hl5 := lt_in hA5
      have HX2 : Hid ((xs ++ [x]).length = xs.length + 1) := Lib.hid (by rw [List.length_append]; rfl)
      clear hA5 hA hown5 own4 own2 r4 hk5 hg5 hx4 hxn
      go_wp2
      exact ⟨⟨xs.length + 1, _, xs ++ [x], _, r2, g5, by omega, by simp, HX2.out, HP2, RN.out, LN.out⟩, by simp [intOf]; omega⟩
    · obtain rfl : n = xs.length := by omega
      go_wp2
      obtain ⟨cur', hbl, hpu⟩ := L.blk
      exact bodyPost_end (v := .tuple #[]) (by simp [results, Tryz.results68]) rfl ⟨L.kept, .inr ⟨xs, r, cur', [v], by rw [HP1.out]; exact pN_end HP.out, rfl, hr, hbl, hpu, v, rfl, L.done IncT.stable (by omega)⟩⟩
theorem nodeG_c {w : World} {c p o : Nat} {bs : List UInt8} {g : Option Nat} {cur : Array Value} {t : TypeId} (h : Rd w c bs g) (hgl : ∀ k, g = some k → k < w.heap.size) (hb : Blk w p cur t c g) (hz : ∀ f, f < 2 → cur[o + f]? = ([Value.int IntKind.i64 0, Value.int IntKind.i64 0] : List Value)[f]?) :
    Calls Tryz.prog 63 #[.pointer (some ⟨c, 0, none⟩), .pointer (some ⟨p, o, none⟩)] w (Got NodeT.Is pNode bs w c p o g cur t) := by
  have hmf : ∀ (fn : Fn) (first cap : Array Value) (w : World), (Instr.makeFunc fn first cap).run Tryz.prog w = .ok (.func fn first cap) w := fun _ _ _ _ => rfl
  have hlp := lt_in hb.heap
  have hlc := h.lt
  go_enter Tryz.func63, Tryz.ntmps63
  have B0 := hb
  have H0 := h
  have P0 := Put.nil cur o
  have K0 := Kept.refl (fun k => k = c ∨ k = p) w
  have z0 := hz
  clear h hb
  have lp0 := lt_in B0.heap
  go_wp2
  refine wp_region_ord [1, 2, 3, 4, 5, 6] [0] [7, 8] (by kernel_rfl) (by kernel_rfl) (fun _ _ d _ _ h => by cases d <;> exact h) ?_
  simp only [sel, List.filterMap_cons, List.filterMap_nil, List.getElem?_cons_zero, List.getElem?_cons_succ]
  repeat (quiet_step (fail))
  refine wpQuiet_nil ?_
  refine wpIdle_step (fun K hK => ?_)
  go_simp
  refine hK _ ?_
  clear hK
  refine wpIdle_nil ?_
  rintro _ ⟨nr, rfl⟩
  go_wp2_with fail
  have j0 : Kept (fun _ => False) w ((w.drewN nr).alloc (Obj.cells #[Value.pointer (some ⟨p, o, none⟩), Value.pointer (some ⟨p, o + 1, none⟩)] 141)) := (Kept.drewN _ _ _).al _
  have rr0 := (own_alloc (w.drewN nr) [Value.pointer (some ⟨p, o, none⟩), Value.pointer (some ⟨p, o + 1, none⟩)] 141 2 rfl (by decide)).reads
  have hs0 : (w.drewN nr).heap.size = w.heap.size := rfl
  rw [hs0] at rr0
  generalize (w.drewN nr).alloc (Obj.cells #[Value.pointer (some ⟨p, o, none⟩), Value.pointer (some ⟨p, o + 1, none⟩)] 141) = y0 at j0 rr0 ⊢
  have HH0 : Rd y0 c _ g := H0.kept j0
  have BB0 := B0.kept j0 (fun h => h)
  have hc0 : c < w.heap.size := H0.lt
  have lb0 := lt_in B0.heap
  refine (numsI_c (m := 2) (o := o) HH0 BB0 (gp := some w.heap.size) rr0 (fun k hk => by cases hk; exact ⟨Nat.ne_of_gt hc0, Nat.ne_of_gt lb0⟩) (by
    intro f hf
    obtain rfl | rfl : f = 0 ∨ f = 1 := by omega
    · exact ⟨0, by rw [P0.other _ (by simp)]; exact hz 0 (by omega)⟩
    · exact ⟨0, by rw [P0.other _ (by simp)]; exact hz 1 (by omega)⟩
    ) (by omega)).mono ?_
  rintro _ w1 ⟨k1, ⟨hp, rfl, hwas⟩ | ⟨ns0, r1, cur1, cs0, hp, rfl, H1, B1, q1, hx0⟩⟩
  · exact ⟨rfl, K0.trans (kept_alloc2 j0 k1), .inl ⟨by simp only [pNode, Option.bind_some]; exact pN2_none hp _, rfl, hwas.cast P0.size⟩⟩
  have K1 := K0.trans (kept_alloc2 j0 k1)
  replace k1 := kept_alloc2 j0 k1
  obtain rfl := hx0
  obtain ⟨n0_0, s0_0, n0_1, hp0_0, hp0_1, rfl⟩ := pN2_some hp
  simp only [List.map_cons, List.map_nil] at q1
  have P1 := P0.append q1
  go_wp2
  exact bodyPost_end (v := .tuple #[]) (by simp [results, Tryz.results63]) rfl ⟨K1, .inr ⟨⟨n0_0, n0_1⟩, r1, cur1, _, by simp only [pNode, hp0_0, hp0_1, Option.bind_some], rfl, H1, B1, P1, ⟨rfl, (lawI.dec _ _ _ hp0_0).2, (lawI.dec _ _ _ hp0_1).2⟩⟩⟩
theorem slotG_c {w : World} {c p o : Nat} {bs : List UInt8} {g : Option Nat} {cur : Array Value} {t : TypeId} (h : Rd w c bs g) (hgl : ∀ k, g = some k → k < w.heap.size) (hb : Blk w p cur t c g) (hz : ∀ f, f < 3 → cur[o + f]? = ([Value.int IntKind.i64 0, Value.int IntKind.i64 0, Value.slice none 0 0] : List Value)[f]?) :
    Calls Tryz.prog 67 #[.pointer (some ⟨c, 0, none⟩), .pointer (some ⟨p, o, none⟩)] w (Got SlotT.Is pSlot bs w c p o g cur t) := by
  have hmf : ∀ (fn : Fn) (first cap : Array Value) (w : World), (Instr.makeFunc fn first cap).run Tryz.prog w = .ok (.func fn first cap) w := fun _ _ _ _ => rfl
  have hlp := lt_in hb.heap
  have hlc := h.lt
  go_enter Tryz.func67, Tryz.ntmps67
  have B0 := hb
  have H0 := h
  have P0 := Put.nil cur o
  have K0 := Kept.refl (fun k => k = c ∨ k = p) w
  have z0 := hz
  clear h hb
  have lp0 := lt_in B0.heap
  go_wp2
  refine wp_region_ord [1, 2, 3, 4, 5, 6] [0] [7, 8] (by kernel_rfl) (by kernel_rfl) (fun _ _ d _ _ h => by cases d <;> exact h) ?_
  simp only [sel, List.filterMap_cons, List.filterMap_nil, List.getElem?_cons_zero, List.getElem?_cons_succ]
  repeat (quiet_step (fail))
  refine wpQuiet_nil ?_
  refine wpIdle_step (fun K hK => ?_)
  go_simp
  refine hK _ ?_
  clear hK
  refine wpIdle_nil ?_
  rintro _ ⟨nr, rfl⟩
  go_wp2_with fail
  have j0 : Kept (fun _ => False) w ((w.drewN nr).alloc (Obj.cells #[Value.pointer (some ⟨p, o, none⟩), Value.pointer (some ⟨p, o + 1, none⟩)] 141)) := (Kept.drewN _ _ _).al _
  have rr0 := (own_alloc (w.drewN nr) [Value.pointer (some ⟨p, o, none⟩), Value.pointer (some ⟨p, o + 1, none⟩)] 141 2 rfl (by decide)).reads
  have hs0 : (w.drewN nr).heap.size = w.heap.size := rfl
  rw [hs0] at rr0
  generalize (w.drewN nr).alloc (Obj.cells #[Value.pointer (some ⟨p, o, none⟩), Value.pointer (some ⟨p, o + 1, none⟩)] 141) = y0 at j0 rr0 ⊢
  have HH0 : Rd y0 c _ g := H0.kept j0
  have BB0 := B0.kept j0 (fun h => h)
  have hc0 : c < w.heap.size := H0.lt
  have lb0 := lt_in B0.heap
  refine (numsI_c (m := 2) (o := o) HH0 BB0 (gp := some w.heap.size) rr0 (fun k hk => by cases hk; exact ⟨Nat.ne_of_gt hc0, Nat.ne_of_gt lb0⟩) (by
    intro f hf
    obtain rfl | rfl : f = 0 ∨ f = 1 := by omega
    · exact ⟨0, by rw [P0.other _ (by simp)]; exact hz 0 (by omega)⟩
    · exact ⟨0, by rw [P0.other _ (by simp)]; exact hz 1 (by omega)⟩
    ) (by omega)).mono ?_
  rintro _ w1 ⟨k1, ⟨hp, rfl, hwas⟩ | ⟨ns0, r1, cur1, cs0, hp, rfl, H1, B1, q1, hx0⟩⟩
  · exact ⟨rfl, K0.trans (kept_alloc2 j0 k1), .inl ⟨by simp only [pSlot, Option.bind_some]; exact pN2_none hp _, rfl, hwas.cast P0.size⟩⟩
  have K1 := K0.trans (kept_alloc2 j0 k1)
  replace k1 := kept_alloc2 j0 k1
  obtain rfl := hx0
  obtain ⟨n0_0, s0_0, n0_1, hp0_0, hp0_1, rfl⟩ := pN2_some hp
  simp only [List.map_cons, List.map_nil] at q1
  have P1 := P0.append q1
  go_wp2_with fail
  refine (bytesG_c H1 (fun k hk => by have := hgl k hk; have := K1.size; omega) B1 (by rw [P1.other (o + 2) (by simp)]; exact hz 2 (by omega))).mono ?_
  rintro _ w2 ⟨k2, ⟨hp, rfl, hwas⟩ | ⟨x1, r2, cur2, cs1, hp1, rfl, H2, B2, q2, hx1⟩⟩
  · exact ⟨rfl, K1.trans k2, .inl ⟨by simp only [pSlot, hp0_0, hp0_1, Option.bind_some]; rw [hp]; rfl, rfl, hwas.cast P1.size⟩⟩
  have K2 := K1.trans k2
  have P2 := P1.append q2
  obtain ⟨v1, rfl, l1⟩ := hx1
  go_wp2
  have T2 := Kept.refl (fun k => k = c ∨ k = p) w2
  have T1 := k2.trans T2
  exact bodyPost_end (v := .tuple #[]) (by simp [results, Tryz.results67]) rfl ⟨K2, .inr ⟨⟨n0_0, n0_1, x1⟩, r2, cur2, _, by simp only [pSlot, hp0_0, hp0_1, hp1, Option.bind_some], rfl, H2, B2, P2, ⟨v1, rfl, (lawI.dec _ _ _ hp0_0).2, (lawI.dec _ _ _ hp0_1).2, l1.late byteIs_stable K1.size T2 hlc hlp⟩⟩⟩
theorem info_Slot : (Tryz.prog.info? 149).map (fun i => (i.zero, i.size, i.bytes)) = some (some (Value.agg #[Value.int IntKind.i64 0, Value.int IntKind.i64 0, Value.slice none 0 0]), 3, 40) := by kernel_rfl
theorem listSlotG_c {w : World} {c p o : Nat} {bs : List UInt8} {g : Option Nat} {cur : Array Value} {t : TypeId} (h : Rd w c bs g) (hgl : ∀ k, g = some k → k < w.heap.size) (hb : Blk w p cur t c g) (hz : cur[o]? = some (.slice none 0 0)) :
    Calls Tryz.prog 66 #[.pointer (some ⟨c, 0, none⟩), .pointer (some ⟨p, o, none⟩), .func (.func 67) #[.pointer (some ⟨c, 0, none⟩)] #[]] w (Got (sliceIs 3 SlotT.Is) (pL pSlot) bs w c p o g cur t) := by
  obtain ⟨i0, hi0, hz0, hz1, hz2⟩ := info_all info_Slot
  have p0 : w.cell? ⟨p, o, none⟩ = some (.slice none 0 0) := (cell_in hb.heap).trans hz
  have hlp := lt_in hb.heap
  have hlc := h.lt
  go_enter Tryz.func66, Tryz.ntmps66
  go_wp2_with fail
  refine (countG_c h).mono ?_
  rintro e w1 ⟨k1, ⟨n, r1, hp1, rfl, h1⟩ | ⟨hp1, rfl⟩⟩
  rotate_left
  · exact ⟨rfl, k1.mono (fun _ _ h => .inl h), .inl ⟨by unfold pL; rw [hp1]; rfl, rfl, (hb.kept k1 hb.ne).was⟩⟩
  have hb1 := hb.kept k1 hb.ne
  have p1 : w1.cell? ⟨p, o, none⟩ = some (.slice none 0 0) := (cell_in hb1.heap).trans hz
  have f1 : w1.frozen? ⟨p, o, none⟩ = false := frozen_in hb1.heap
  have lp1 := lt_in hb1.heap
  have c2 : w1.cell? ⟨c, 2, none⟩ = some (.bool true) := by
    obtain ⟨vi, h2, -⟩ := h1.ex
    exact cell_in h2
  have lc1 := h1.lt
  have e1 := setCell_same' p1
  have L0 := Lst.start SlotT.Is 3 149 hb1 hz k1
  have hn32 := (pC_some hp1).2.1
  have HP1 : Hid (pL pSlot bs = pN pSlot n r1) := Lib.hid (by unfold pL; rw [hp1]; rfl)
  clear p0 hb1 hp1
  go_wp2
  go_loopw [37] (fun i w' => ∃ (k : Nat) (v : Value) (xs : List SlotT) (Ls : List (List Value)) (r : List UInt8) (g' : Option Nat), k ≤ n ∧ i = .int .i64 k ∧ xs.length = k ∧ Hid (pN pSlot n r1 = (pN pSlot (n - k) r).bind (fun z => some (xs ++ z.1, z.2))) ∧ Rd w' c r g ∧ Lst SlotT.Is 3 149 w w' c p o g cur t v xs Ls g') (fun i _ => n - (intOf i).toNat)
  case atStart => exact ⟨0, _, [], [], r1, none, by omega, rfl, rfl, Lib.hid (by rw [Nat.sub_zero]; exact (bind_eta _).symm), h1, L0⟩
  case round =>
    obtain ⟨k, v, xs, Ls, r, g', hk, rfl, rfl, HP, hr, L⟩ := hrel
    by_cases hk2 : xs.length < n
    · have hki : (xs.length : Int) < (n : Int) := by omega
      obtain ⟨a, cp, rfl, hcp, -⟩ := L.own.shape
      obtain ⟨curp, hbp, hvp⟩ := L.cell
      have pr : wr.cell? ⟨p, o, none⟩ = some (.slice a xs.length cp) := (cell_in hbp).trans hvp
      have lpr := lt_in hbp
      have hsw := L.kept.size
      go_wp2_with fail
      have ka := Kept.alloc (fun _ => False) wr (Obj.cells #[Value.int IntKind.i64 0, Value.int IntKind.i64 0, Value.slice none 0 0] 149)
      have hq : (wr.alloc (Obj.cells #[Value.int IntKind.i64 0, Value.int IntKind.i64 0, Value.slice none 0 0] 149)).heap[wr.heap.size]? = some (Obj.cells #[Value.int IntKind.i64 0, Value.int IntKind.i64 0, Value.slice none 0 0] 149) := heap_alloc_new' _ _
      have ra : Rd (wr.alloc (Obj.cells #[Value.int IntKind.i64 0, Value.int IntKind.i64 0, Value.slice none 0 0] 149)) c r g := hr.kept ka
      have sa : (wr.alloc (Obj.cells #[Value.int IntKind.i64 0, Value.int IntKind.i64 0, Value.slice none 0 0] 149)).heap.size = wr.heap.size + 1 := by simp
      generalize wr.alloc (Obj.cells #[Value.int IntKind.i64 0, Value.int IntKind.i64 0, Value.slice none 0 0] 149) = wa at ka hq ra sa ⊢
      have bq : Blk wa wr.heap.size #[Value.int IntKind.i64 0, Value.int IntKind.i64 0, Value.slice none 0 0] 149 c g := ⟨hq, by omega, fun e => by have := hgl _ e; omega⟩
      refine (slotG_c ra (fun k hk => by have := hgl k hk; omega) bq (by intro f hf; simp)).mono ?_
      rintro e w2 ⟨k2, ⟨hp2, rfl, -⟩ | ⟨x, r2, cur2, cs, hp2, rfl, h2, b2, put2, hx⟩⟩
      · exact ⟨rfl, (L.kept.trans (ka.mono (fun _ _ h => h.elim))).thn k2 (fun i hi => by rcases hi with rfl | rfl; exact .inl (.inl rfl); exact .inr hsw), .inl ⟨by rw [HP1.out]; exact pN_stop hk2 HP.out hp2, rfl, L.was.kept ka k2 (fun h => h) (fun h => by rcases h with h | h; exact hb.ne h; omega)⟩⟩
      have k02 : Kept (· = c) wr w2 := (ka.mono (fun _ _ h => h.elim)).thn k2 (fun i hi => by rcases hi with rfl | rfl; exact .inl rfl; exact .inr (Nat.le_refl _))
      have hxn : SlotT.Is w2 (New wr w2) cs x := SlotT.stable _ _ _ _ _ _ hx (fun k hk => ⟨by have := hk.1; omega, hk.2⟩) (fun _ _ => rfl)
      obtain ⟨uv_value, rfl, -, -, m0⟩ := hx
      obtain ⟨au0, cu0, rfl, -⟩ := m0.shape
      have y0 : w2.cell? ⟨wr.heap.size, 0, none⟩ = some (Value.int IntKind.i64 x.slot) := (cell_in b2.heap).trans (by have := put2.at_ 0 (by simp); simpa using this)
      have y1 : w2.cell? ⟨wr.heap.size, 1, none⟩ = some (Value.int IntKind.i64 x.ballot) := (cell_in b2.heap).trans (by have := put2.at_ 1 (by simp); simpa using this)
      have y2 : w2.cell? ⟨wr.heap.size, 2, none⟩ = some (Value.slice au0 x.value.length cu0) := (cell_in b2.heap).trans (by have := put2.at_ 2 (by simp); simpa using this)
      have lq2 := lt_in b2.heap
      have HP2 := Lib.hid (pN_next hk2 HP.out hp2)
      have bp2 : w2.heap[p]? = some (.cells curp t) := (k02.block _ lpr hb.ne).trans hbp
      have HBP := Lib.hid bp2
      have lp2 := lt_in bp2
      have hpq : p ≠ wr.heap.size := by omega
      have own2 := L.own.kept k02 (fun k hk e => by have := L.new k hk; omega)
      clear ka hq ra bq hbp pr HP hp2 bp2
      go_wp2
      refine wp_region_ordJ (fun w' => w'.heap[p]? = some (.cells curp t)) [4] [0, 1, 2, 3] [5, 6] [7, 8] (by kernel_rfl) (by kernel_rfl) (fun _ _ d _ _ h => by cases d <;> exact h) (fun k => HBP.out) ?_
      simp only [sel, List.filterMap_cons, List.filterMap_nil, List.getElem?_cons_zero, List.getElem?_cons_succ]
      repeat (quiet_step (fail))
      refine wpQuiet_nil ?_
      refine wpHeld_step (fun K hK => ?_)
      go_simp
      refine ⟨_, fun _ _ => rfl, hK _ ?_⟩
      refine wpHeld_step (fun K hK => ?_)
      go_simp
      refine ⟨_, fun _ _ => rfl, hK _ ?_⟩
      refine wpHeld_step (fun K hK => ?_)
      go_simp
      refine ⟨_, fun _ _ => rfl, hK _ ?_⟩
      refine wpHeld_step (fun K hK => ?_)
      go_simp
      refine ⟨.slice a xs.length cp, fun w' h => (by
        have h1 := (cell_in (k := o) h).trans hvp
        have h2 := lt_in h
        clear h
        go_simp), hK _ ?_⟩
      refine wpHeld_nil ?_
      rintro _ ⟨nr, rfl⟩
      have kd := Kept.drewN (fun _ => False) w2 nr
      have Q3 : Hid ((w2.drewN nr).heap[p]? = some (.cells curp t)) := Lib.hid HBP.out
      generalize w2.drewN nr = w3 at kd Q3 ⊢
      refine wpListS_step (fun K hK => ?_)
      go_simp
      have hA : (w3.alloc (Obj.cells #[Value.int IntKind.i64 x.slot, Value.int IntKind.i64 x.ballot, Value.slice au0 x.value.length cu0] 149)).heap[p]? = some (.cells curp t) := (Below.heap_alloc _ _ _ (lt_in Q3.out)).trans Q3.out
      refine hK _ _ hA ?_
      clear hK
      have k34 := kd.al (Obj.cells #[Value.int IntKind.i64 x.slot, Value.int IntKind.i64 x.ballot, Value.slice au0 x.value.length cu0] 149)
      have r4 := reads_allocN w3 [Value.int IntKind.i64 x.slot, Value.int IntKind.i64 x.ballot, Value.slice au0 x.value.length cu0] 149 3 rfl
      generalize w3.alloc (Obj.cells #[Value.int IntKind.i64 x.slot, Value.int IntKind.i64 x.ballot, Value.slice au0 x.value.length cu0] 149) = w4 at hA k34 r4 ⊢
      have own4 := own2.kept k34 (fun _ _ h => h)
      refine wpListS_append_Own rfl _ _ 27 27 rfl 149 i0 (Value.agg #[Value.int IntKind.i64 0, Value.int IntKind.i64 0, Value.slice none 0 0]) 3 40 Tryz.underlying27 hi0 hz0 hz1 hz2 rfl rfl own4 rfl (r4.src Tryz.underlying27 (by intro u hu; simp only [List.mem_cons, List.not_mem_nil, or_false] at hu; rcases hu with rfl | rfl | rfl <;> rfl)) (by unfold maxLen; omega) (by omega) ?_
      intro a5 k5 w5 g5 hown5 hk5 hg5
      have hgp : g' ≠ some p := fun e => by have := L.new p e; omega
      have hA5 : w5.heap[p]? = _ := (hk5.block _ (lt_in hA) (fun h => hgp h)).trans hA
      refine ⟨hA5, ?_⟩
      refine wpListS_nil ?_
      have k04 : Kept (· = c) wr w4 := k02.trans (k34.mono (fun _ _ h => h.elim))
      have s4 := k34.size
      have hx4 : SlotT.Is w4 (New wr w4) _ x := SlotT.stable _ _ _ _ _ _ hxn (fun k hk => ⟨hk.1, by have := hk.2; omega⟩) (fun k hk => k34.block k hk.2 (fun h => h))
      have LN := Lib.hid (L.grow SlotT.stable (o := o) hlp hlc k04 hx4 rfl hown5 hk5 hg5)
      have RN := Lib.hid (Lst.rd L (w2 := w2) (o := o) (v4 := .slice a5 (xs.length + 1) k5) hlc hgl (h2.kept k34) hk5)
      have f0 : w5.frozen? ⟨p, o, none⟩ = false := frozen_in hA5
      have z5 := (cell_in (k := o) hA5).trans hvp
      have hl5 := lt_in hA5
      have HX2 : Hid ((xs ++ [x]).length = xs.length + 1) := Lib.hid (by rw [List.length_append]; rfl)
      clear hA5 hA hown5 own4 own2 r4 hk5 hg5 hx4 hxn
      go_wp2
      exact ⟨⟨xs.length + 1, _, xs ++ [x], _, r2, g5, by omega, by simp, HX2.out, HP2, RN.out, LN.out⟩, by simp [intOf]; omega⟩
    · obtain rfl : n = xs.length := by omega
      go_wp2
      obtain ⟨cur', hbl, hpu⟩ := L.blk
      exact bodyPost_end (v := .tuple #[]) (by simp [results, Tryz.results66]) rfl ⟨L.kept, .inr ⟨xs, r, cur', [v], by rw [HP1.out]; exact pN_end HP.out, rfl, hr, hbl, hpu, v, rfl, L.done SlotT.stable (by omega)⟩⟩
theorem objectG_c {w : World} {c p o : Nat} {bs : List UInt8} {g : Option Nat} {cur : Array Value} {t : TypeId} (h : Rd w c bs g) (hgl : ∀ k, g = some k → k < w.heap.size) (hb : Blk w p cur t c g) (hz : ∀ f, f < 4 → cur[o + f]? = ([Value.string ⟨#[]⟩, Value.int IntKind.i64 0, Value.int IntKind.i64 0, Value.slice none 0 0] : List Value)[f]?) :
    Calls Tryz.prog 73 #[.pointer (some ⟨c, 0, none⟩), .pointer (some ⟨p, o, none⟩)] w (Got ObjectT.Is pObject bs w c p o g cur t) := by
  have hmf : ∀ (fn : Fn) (first cap : Array Value) (w : World), (Instr.makeFunc fn first cap).run Tryz.prog w = .ok (.func fn first cap) w := fun _ _ _ _ => rfl
  have hlp := lt_in hb.heap
  have hlc := h.lt
  go_enter Tryz.func73, Tryz.ntmps73
  have B0 := hb
  have H0 := h
  have P0 := Put.nil cur o
  have K0 := Kept.refl (fun k => k = c ∨ k = p) w
  have z0 := hz
  clear h hb
  go_wp2_with fail
  refine (textG_c H0 (fun k hk => by have := hgl k hk; have := K0.size; omega) B0 (by rw [P0.other (o) (by simp)]; exact hz 0 (by omega))).mono ?_
  rintro _ w1 ⟨k1, ⟨hp, rfl, hwas⟩ | ⟨x0, r1, cur1, cs0, hp0, rfl, H1, B1, q1, hx0⟩⟩
  · exact ⟨rfl, K0.trans k1, .inl ⟨by simp only [pObject, Option.bind_some]; rw [hp]; rfl, rfl, hwas.cast P0.size⟩⟩
  have K1 := K0.trans k1
  have P1 := P0.append q1
  obtain rfl := hx0
  have lp1 := lt_in B1.heap
  go_wp2_with fail
  refine (versionG_c H1 (fun k hk => by have := hgl k hk; have := K1.size; omega) B1 (o := o + 1) (by
    intro f hf
    obtain rfl | rfl : f = 0 ∨ f = 1 := by omega
    · rw [P1.other _ (by simp)]; exact hz 1 (by omega)
    · rw [P1.other _ (by simp)]; exact hz 2 (by omega)
    )).mono ?_
  rintro _ w2 ⟨k2, ⟨hp, rfl, hwas⟩ | ⟨x1, r2, cur2, cs1, hp1, rfl, H2, B2, q2, hx1⟩⟩
  · exact ⟨rfl, K1.trans k2, .inl ⟨by simp only [pObject, hp0, Option.bind_some]; rw [hp]; rfl, rfl, hwas.cast P1.size⟩⟩
  have K2 := K1.trans k2
  have P2 := P1.append q2
  obtain ⟨rfl, j1_0, j1_1⟩ := hx1
  go_wp2_with fail
  refine (bytesG_c H2 (fun k hk => by have := hgl k hk; have := K2.size; omega) B2 (by rw [P2.other (o + 3) (by simp)]; exact hz 3 (by omega))).mono ?_
  rintro _ w3 ⟨k3, ⟨hp, rfl, hwas⟩ | ⟨x2, r3, cur3, cs2, hp2, rfl, H3, B3, q3, hx2⟩⟩
  · exact ⟨rfl, K2.trans k3, .inl ⟨by simp only [pObject, hp0, hp1, Option.bind_some]; rw [hp]; rfl, rfl, hwas.cast P2.size⟩⟩
  have K3 := K2.trans k3
  have P3 := P2.append q3
  obtain ⟨v2, rfl, l2⟩ := hx2
  go_wp2
  have T3 := Kept.refl (fun k => k = c ∨ k = p) w3
  have T2 := k3.trans T3
  have T1 := k2.trans T2
  exact bodyPost_end (v := .tuple #[]) (by simp [results, Tryz.results73]) rfl ⟨K3, .inr ⟨⟨x0, x1, x2⟩, r3, cur3, _, by simp only [pObject, hp0, hp1, hp2, Option.bind_some], rfl, H3, B3, P3, ⟨v2, rfl, j1_0, j1_1, l2.late byteIs_stable K2.size T3 hlc hlp⟩⟩⟩
theorem infoG_c {w : World} {c p o : Nat} {bs : List UInt8} {g : Option Nat} {cur : Array Value} {t : TypeId} (h : Rd w c bs g) (hgl : ∀ k, g = some k → k < w.heap.size) (hb : Blk w p cur t c g) (hz : ∀ f, f < 6 → cur[o + f]? = ([Value.int IntKind.i64 0, Value.int IntKind.i64 0, Value.int IntKind.i64 0, Value.int IntKind.i64 0, Value.int IntKind.i64 0, Value.int IntKind.i64 0] : List Value)[f]?) :
    Calls Tryz.prog 71 #[.pointer (some ⟨c, 0, none⟩), .pointer (some ⟨p, o, none⟩)] w (Got InfoT.Is pInfo bs w c p o g cur t) := by
  have hmf : ∀ (fn : Fn) (first cap : Array Value) (w : World), (Instr.makeFunc fn first cap).run Tryz.prog w = .ok (.func fn first cap) w := fun _ _ _ _ => rfl
  have hlp := lt_in hb.heap
  have hlc := h.lt
  go_enter Tryz.func71, Tryz.ntmps71
  have B0 := hb
  have H0 := h
  have P0 := Put.nil cur o
  have K0 := Kept.refl (fun k => k = c ∨ k = p) w
  have z0 := hz
  clear h hb
  go_wp2_with fail
  refine (numI_c H0 B0 (m := 0) (by rw [P0.other (o) (by simp)]; exact hz 0 (by omega))).mono ?_
  rintro _ w1 ⟨k1, ⟨hp, rfl, hwas⟩ | ⟨x0, r1, cur1, cs0, hp0, rfl, H1, B1, q1, hx0⟩⟩
  · exact ⟨rfl, K0.trans k1, .inl ⟨by simp only [pInfo, Option.bind_some]; rw [hp]; rfl, rfl, hwas.cast P0.size⟩⟩
  have K1 := K0.trans k1
  have P1 := P0.append q1
  obtain ⟨rfl, j0⟩ := hx0
  have lp1 := lt_in B1.heap
  go_wp2_with fail
  refine (versionG_c H1 (fun k hk => by have := hgl k hk; have := K1.size; omega) B1 (o := o + 1) (by
    intro f hf
    obtain rfl | rfl : f = 0 ∨ f = 1 := by omega
    · rw [P1.other _ (by simp)]; exact hz 1 (by omega)
    · rw [P1.other _ (by simp)]; exact hz 2 (by omega)
    )).mono ?_
  rintro _ w2 ⟨k2, ⟨hp, rfl, hwas⟩ | ⟨x1, r2, cur2, cs1, hp1, rfl, H2, B2, q2, hx1⟩⟩
  · exact ⟨rfl, K1.trans k2, .inl ⟨by simp only [pInfo, hp0, Option.bind_some]; rw [hp]; rfl, rfl, hwas.cast P1.size⟩⟩
  have K2 := K1.trans k2
  have P2 := P1.append q2
  obtain ⟨rfl, j1_0, j1_1⟩ := hx1
  have lp2 := lt_in B2.heap
  go_wp2_with fail
  refine (versionG_c H2 (fun k hk => by have := hgl k hk; have := K2.size; omega) B2 (o := o + 3) (by
    intro f hf
    obtain rfl | rfl : f = 0 ∨ f = 1 := by omega
    · rw [P2.other _ (by simp)]; exact hz 3 (by omega)
    · rw [P2.other _ (by simp)]; exact hz 4 (by omega)
    )).mono ?_
  rintro _ w3 ⟨k3, ⟨hp, rfl, hwas⟩ | ⟨x2, r3, cur3, cs2, hp2, rfl, H3, B3, q3, hx2⟩⟩
  · exact ⟨rfl, K2.trans k3, .inl ⟨by simp only [pInfo, hp0, hp1, Option.bind_some]; rw [hp]; rfl, rfl, hwas.cast P2.size⟩⟩
  have K3 := K2.trans k3
  have P3 := P2.append q3
  obtain ⟨rfl, j2_0, j2_1⟩ := hx2
  go_wp2_with fail
  refine (numI_c H3 B3 (m := 0) (by rw [P3.other (o + 5) (by simp)]; exact hz 5 (by omega))).mono ?_
  rintro _ w4 ⟨k4, ⟨hp, rfl, hwas⟩ | ⟨x3, r4, cur4, cs3, hp3, rfl, H4, B4, q4, hx3⟩⟩
  · exact ⟨rfl, K3.trans k4, .inl ⟨by simp only [pInfo, hp0, hp1, hp2, Option.bind_some]; rw [hp]; rfl, rfl, hwas.cast P3.size⟩⟩
  have K4 := K3.trans k4
  have P4 := P3.append q4
  obtain ⟨rfl, j3⟩ := hx3
  go_wp2
  exact bodyPost_end (v := .tuple #[]) (by simp [results, Tryz.results71]) rfl ⟨K4, .inr ⟨⟨x0, x1, x2, x3⟩, r4, cur4, _, by simp only [pInfo, hp0, hp1, hp2, hp3, Option.bind_some], rfl, H4, B4, P4, ⟨rfl, j0, j1_0, j1_1, j2_0, j2_1, j3⟩⟩⟩
theorem opG_c {w : World} {c p o : Nat} {bs : List UInt8} {g : Option Nat} {cur : Array Value} {t : TypeId} (h : Rd w c bs g) (hgl : ∀ k, g = some k → k < w.heap.size) (hb : Blk w p cur t c g) (hz : ∀ f, f < 5 → cur[o + f]? = ([Value.int IntKind.i64 0, Value.string ⟨#[]⟩, Value.slice none 0 0, Value.int IntKind.i64 0, Value.int IntKind.i64 0] : List Value)[f]?) :
    Calls Tryz.prog 74 #[.pointer (some ⟨c, 0, none⟩), .pointer (some ⟨p, o, none⟩)] w (Got OpT.Is pOp bs w c p o g cur t) := by
  have hmf : ∀ (fn : Fn) (first cap : Array Value) (w : World), (Instr.makeFunc fn first cap).run Tryz.prog w = .ok (.func fn first cap) w := fun _ _ _ _ => rfl
  have hlp := lt_in hb.heap
  have hlc := h.lt
  go_enter Tryz.func74, Tryz.ntmps74
  have B0 := hb
  have H0 := h
  have P0 := Put.nil cur o
  have K0 := Kept.refl (fun k => k = c ∨ k = p) w
  have z0 := hz
  clear h hb
  go_wp2_with fail
  refine (numI_c H0 B0 (m := 0) (by rw [P0.other (o) (by simp)]; exact hz 0 (by omega))).mono ?_
  rintro _ w1 ⟨k1, ⟨hp, rfl, hwas⟩ | ⟨x0, r1, cur1, cs0, hp0, rfl, H1, B1, q1, hx0⟩⟩
  · exact ⟨rfl, K0.trans k1, .inl ⟨by simp only [pOp, Option.bind_some]; rw [hp]; rfl, rfl, hwas.cast P0.size⟩⟩
  have K1 := K0.trans k1
  have P1 := P0.append q1
  obtain ⟨rfl, j0⟩ := hx0
  go_wp2_with fail
  refine (textG_c H1 (fun k hk => by have := hgl k hk; have := K1.size; omega) B1 (by rw [P1.other (o + 1) (by simp)]; exact hz 1 (by omega))).mono ?_
  rintro _ w2 ⟨k2, ⟨hp, rfl, hwas⟩ | ⟨x1, r2, cur2, cs1, hp1, rfl, H2, B2, q2, hx1⟩⟩
  · exact ⟨rfl, K1.trans k2, .inl ⟨by simp only [pOp, hp0, Option.bind_some]; rw [hp]; rfl, rfl, hwas.cast P1.size⟩⟩
  have K2 := K1.trans k2
  have P2 := P1.append q2
  obtain rfl := hx1
  go_wp2_with fail
  refine (bytesG_c H2 (fun k hk => by have := hgl k hk; have := K2.size; omega) B2 (by rw [P2.other (o + 2) (by simp)]; exact hz 2 (by omega))).mono ?_
  rintro _ w3 ⟨k3, ⟨hp, rfl, hwas⟩ | ⟨x2, r3, cur3, cs2, hp2, rfl, H3, B3, q3, hx2⟩⟩
  · exact ⟨rfl, K2.trans k3, .inl ⟨by simp only [pOp, hp0, hp1, Option.bind_some]; rw [hp]; rfl, rfl, hwas.cast P2.size⟩⟩
  have K3 := K2.trans k3
  have P3 := P2.append q3
  obtain ⟨v2, rfl, l2⟩ := hx2
  have lp3 := lt_in B3.heap
  go_wp2_with fail
  refine (versionG_c H3 (fun k hk => by have := hgl k hk; have := K3.size; omega) B3 (o := o + 3) (by
    intro f hf
    obtain rfl | rfl : f = 0 ∨ f = 1 := by omega
    · rw [P3.other _ (by simp)]; exact hz 3 (by omega)
    · rw [P3.other _ (by simp)]; exact hz 4 (by omega)
    )).mono ?_
  rintro _ w4 ⟨k4, ⟨hp, rfl, hwas⟩ | ⟨x3, r4, cur4, cs3, hp3, rfl, H4, B4, q4, hx3⟩⟩
  · exact ⟨rfl, K3.trans k4, .inl ⟨by simp only [pOp, hp0, hp1, hp2, Option.bind_some]; rw [hp]; rfl, rfl, hwas.cast P3.size⟩⟩
  have K4 := K3.trans k4
  have P4 := P3.append q4
  obtain ⟨rfl, j3_0, j3_1⟩ := hx3
  go_wp2
  have T4 := Kept.refl (fun k => k = c ∨ k = p) w4
  have T3 := k4.trans T4
  have T2 := k3.trans T3
  have T1 := k2.trans T2
  exact bodyPost_end (v := .tuple #[]) (by simp [results, Tryz.results74]) rfl ⟨K4, .inr ⟨⟨x0, x1, x2, x3⟩, r4, cur4, _, by simp only [pOp, hp0, hp1, hp2, hp3, Option.bind_some], rfl, H4, B4, P4, ⟨v2, rfl, j0, j3_0, j3_1, l2.late byteIs_stable K2.size T3 hlc hlp⟩⟩⟩
theorem msgG_c {w : World} {c p o : Nat} {bs : List UInt8} {g : Option Nat} {cur : Array Value} {t : TypeId} (h : Rd w c bs g) (hgl : ∀ k, g = some k → k < w.heap.size) (hb : Blk w p cur t c g) (hz : ∀ f, f < 46 → cur[o + f]? = ([Value.int IntKind.i64 0, Value.int IntKind.i64 0, Value.int IntKind.i64 0, Value.int IntKind.i64 0, Value.int IntKind.i64 0, Value.int IntKind.i64 0, Value.int IntKind.i64 0, Value.int IntKind.i64 0, Value.int IntKind.i64 0, Value.int IntKind.i64 0, Value.int IntKind.i64 0, Value.int IntKind.i64 0, Value.slice none 0 0, Value.slice none 0 0, Value.slice none 0 0, Value.int IntKind.i64 0, Value.int IntKind.i64 0, Value.int IntKind.i64 0, Value.int IntKind.i64 0, Value.int IntKind.i64 0, Value.int IntKind.i64 0, Value.int IntKind.i64 0, Value.int IntKind.i64 0, Value.int IntKind.i64 0, Value.slice none 0 0, Value.slice none 0 0, Value.slice none 0 0, Value.int IntKind.i64 0, Value.int IntKind.i64 0, Value.bool false, Value.int IntKind.i64 0, Value.string ⟨#[]⟩, Value.int IntKind.i64 0, Value.int IntKind.i64 0, Value.string ⟨#[]⟩, Value.int IntKind.i64 0, Value.int IntKind.i64 0, Value.slice none 0 0, Value.int IntKind.i64 0, Value.string ⟨#[]⟩, Value.slice none 0 0, Value.int IntKind.i64 0, Value.int IntKind.i64 0, Value.slice none 0 0, Value.slice none 0 0, Value.int IntKind.i64 0] : List Value)[f]?) :
    Calls Tryz.prog 31 #[.pointer (some ⟨c, 0, none⟩), .pointer (some ⟨p, o, none⟩)] w (Got MsgT.Is pMsg bs w c p o g cur t) := by
  have hmf : ∀ (fn : Fn) (first cap : Array Value) (w : World), (Instr.makeFunc fn first cap).run Tryz.prog w = .ok (.func fn first cap) w := fun _ _ _ _ => rfl
  have hlp := lt_in hb.heap
  have hlc := h.lt
  go_enter Tryz.func31, Tryz.ntmps31
  have B0 := hb
  have H0 := h
  have P0 := Put.nil cur o
  have K0 := Kept.refl (fun k => k = c ∨ k = p) w
  have z0 := hz
  clear h hb
  go_wp2_with fail
  refine (numI_c H0 B0 (m := 0) (by rw [P0.other (o) (by simp)]; exact hz 0 (by omega))).mono ?_
  rintro _ w1 ⟨k1, ⟨hp, rfl, hwas⟩ | ⟨x0, r1, cur1, cs0, hp0, rfl, H1, B1, q1, hx0⟩⟩
  · exact ⟨rfl, K0.trans k1, .inl ⟨by (unfold pMsg); rw [hp]; rfl, rfl, hwas.cast P0.size⟩⟩
  have K1 := K0.trans k1
  have P1 := P0.append q1
  obtain ⟨rfl, j0⟩ := hx0
  have lp1 := lt_in B1.heap
  go_wp2_with fail
  refine (nodeG_c H1 (fun k hk => by have := hgl k hk; have := K1.size; omega) B1 (o := o + 1) (by
    intro f hf
    obtain rfl | rfl : f = 0 ∨ f = 1 := by omega
    · rw [P1.other _ (by simp)]; exact hz 1 (by omega)
    · rw [P1.other _ (by simp)]; exact hz 2 (by omega)
    )).mono ?_
  rintro _ w2 ⟨k2, ⟨hp, rfl, hwas⟩ | ⟨x1, r2, cur2, cs1, hp1, rfl, H2, B2, q2, hx1⟩⟩
  · exact ⟨rfl, K1.trans k2, .inl ⟨by (unfold pMsg; simp only [hp0, Option.bind_some]); rw [hp]; rfl, rfl, hwas.cast P1.size⟩⟩
  have K2 := K1.trans k2
  have P2 := P1.append q2
  obtain ⟨rfl, j1_0, j1_1⟩ := hx1
  have lp2 := lt_in B2.heap
  go_wp2_with fail
  refine (nodeG_c H2 (fun k hk => by have := hgl k hk; have := K2.size; omega) B2 (o := o + 3) (by
    intro f hf
    obtain rfl | rfl : f = 0 ∨ f = 1 := by omega
    · rw [P2.other _ (by simp)]; exact hz 3 (by omega)
    · rw [P2.other _ (by simp)]; exact hz 4 (by omega)
    )).mono ?_
  rintro _ w3 ⟨k3, ⟨hp, rfl, hwas⟩ | ⟨x2, r3, cur3, cs2, hp2, rfl, H3, B3, q3, hx2⟩⟩
  · exact ⟨rfl, K2.trans k3, .inl ⟨by (unfold pMsg; simp only [hp0, hp1, Option.bind_some]); rw [hp]; rfl, rfl, hwas.cast P2.size⟩⟩
  have K3 := K2.trans k3
  have P3 := P2.append q3
  obtain ⟨rfl, j2_0, j2_1⟩ := hx2
  have lp3 := lt_in B3.heap
  go_wp2
  refine wp_region_ord [1, 2, 3, 4, 5, 6] [0] [7, 8] (by kernel_rfl) (by kernel_rfl) (fun _ _ d _ _ h => by cases d <;> exact h) ?_
  simp only [sel, List.filterMap_cons, List.filterMap_nil, List.getElem?_cons_zero, List.getElem?_cons_succ]
  repeat (quiet_step (fail))
  refine wpQuiet_nil ?_
  refine wpIdle_step (fun K hK => ?_)
  go_simp
  refine hK _ ?_
  clear hK
  refine wpIdle_nil ?_
  rintro _ ⟨nr, rfl⟩
  go_wp2_with fail
  have j3 : Kept (fun _ => False) w3 ((w3.drewN nr).alloc (Obj.cells #[Value.pointer (some ⟨p, o + 5, none⟩), Value.pointer (some ⟨p, o + 6, none⟩)] 141)) := (Kept.drewN _ _ _).al _
  have rr3 := (own_alloc (w3.drewN nr) [Value.pointer (some ⟨p, o + 5, none⟩), Value.pointer (some ⟨p, o + 6, none⟩)] 141 2 rfl (by decide)).reads
  have hs3 : (w3.drewN nr).heap.size = w3.heap.size := rfl
  rw [hs3] at rr3
  generalize (w3.drewN nr).alloc (Obj.cells #[Value.pointer (some ⟨p, o + 5, none⟩), Value.pointer (some ⟨p, o + 6, none⟩)] 141) = y3 at j3 rr3 ⊢
  have HH3 : Rd y3 c _ g := H3.kept j3
  have BB3 := B3.kept j3 (fun h => h)
  have hc3 : c < w3.heap.size := H3.lt
  have lb3 := lt_in B3.heap
  refine (numsI_c (m := 2) (o := o + 5) HH3 BB3 (gp := some w3.heap.size) rr3 (fun k hk => by cases hk; exact ⟨Nat.ne_of_gt hc3, Nat.ne_of_gt lb3⟩) (by
    intro f hf
    obtain rfl | rfl : f = 0 ∨ f = 1 := by omega
    · exact ⟨0, by rw [P3.other _ (by simp)]; exact hz 5 (by omega)⟩
    · exact ⟨0, by rw [P3.other _ (by simp)]; exact hz 6 (by omega)⟩
    ) (by omega)).mono ?_
  rintro _ w4 ⟨k4, ⟨hp, rfl, hwas⟩ | ⟨ns3, r4, cur4, cs3, hp, rfl, H4, B4, q4, hx3⟩⟩
  · exact ⟨rfl, K3.trans (kept_alloc2 j3 k4), .inl ⟨by (unfold pMsg; simp only [hp0, hp1, hp2, Option.bind_some]); exact pN2_none hp _, rfl, hwas.cast P3.size⟩⟩
  have K4 := K3.trans (kept_alloc2 j3 k4)
  replace k4 := kept_alloc2 j3 k4
  obtain rfl := hx3
  obtain ⟨n3_0, s3_0, n3_1, hp3_0, hp3_1, rfl⟩ := pN2_some hp
  simp only [List.map_cons, List.map_nil] at q4
  have P4 := P3.append q4
  have lp4 := lt_in B4.heap
  go_wp2_with fail
  refine (pgG_c H4 (fun k hk => by have := hgl k hk; have := K4.size; omega) B4 (o := o + 7) (by
    intro f hf
    obtain rfl | rfl : f = 0 ∨ f = 1 := by omega
    · rw [P4.other _ (by simp)]; exact hz 7 (by omega)
    · rw [P4.other _ (by simp)]; exact hz 8 (by omega)
    )).mono ?_
  rintro _ w5 ⟨k5, ⟨hp, rfl, hwas⟩ | ⟨x4, r5, cur5, cs4, hp4, rfl, H5, B5, q5, hx4⟩⟩
  · exact ⟨rfl, K4.trans k5, .inl ⟨by (unfold pMsg; simp only [hp0, hp1, hp2, hp3_0, hp3_1, Option.bind_some]); rw [hp]; rfl, rfl, hwas.cast P4.size⟩⟩
  have K5 := K4.trans k5
  have P5 := P4.append q5
  obtain ⟨rfl, j4_0, j4_1⟩ := hx4
  have lp5 := lt_in B5.heap
  go_wp2
  refine wp_region_ord [1, 2, 3, 4, 5, 6, 7, 8, 9] [0] [10, 11] (by kernel_rfl) (by kernel_rfl) (fun _ _ d _ _ h => by cases d <;> exact h) ?_
  simp only [sel, List.filterMap_cons, List.filterMap_nil, List.getElem?_cons_zero, List.getElem?_cons_succ]
  repeat (quiet_step (fail))
  refine wpQuiet_nil ?_
  refine wpIdle_step (fun K hK => ?_)
  go_simp
  refine hK _ ?_
  clear hK
  refine wpIdle_nil ?_
  rintro _ ⟨nr, rfl⟩
  go_wp2_with fail
  have j5 : Kept (fun _ => False) w5 ((w5.drewN nr).alloc (Obj.cells #[Value.pointer (some ⟨p, o + 9, none⟩), Value.pointer (some ⟨p, o + 10, none⟩), Value.pointer (some ⟨p, o + 11, none⟩)] 141)) := (Kept.drewN _ _ _).al _
  have rr5 := (own_alloc (w5.drewN nr) [Value.pointer (some ⟨p, o + 9, none⟩), Value.pointer (some ⟨p, o + 10, none⟩), Value.pointer (some ⟨p, o + 11, none⟩)] 141 3 rfl (by decide)).reads
  have hs5 : (w5.drewN nr).heap.size = w5.heap.size := rfl
  rw [hs5] at rr5
  generalize (w5.drewN nr).alloc (Obj.cells #[Value.pointer (some ⟨p, o + 9, none⟩), Value.pointer (some ⟨p, o + 10, none⟩), Value.pointer (some ⟨p, o + 11, none⟩)] 141) = y5 at j5 rr5 ⊢
  have HH5 : Rd y5 c _ g := H5.kept j5
  have BB5 := B5.kept j5 (fun h => h)
  have hc5 : c < w5.heap.size := H5.lt
  have lb5 := lt_in B5.heap
  refine (numsI_c (m := 3) (o := o + 9) HH5 BB5 (gp := some w5.heap.size) rr5 (fun k hk => by cases hk; exact ⟨Nat.ne_of_gt hc5, Nat.ne_of_gt lb5⟩) (by
    intro f hf
    obtain rfl | rfl | rfl : f = 0 ∨ f = 1 ∨ f = 2 := by omega
    · exact ⟨0, by rw [P5.other _ (by simp)]; exact hz 9 (by omega)⟩
    · exact ⟨0, by rw [P5.other _ (by simp)]; exact hz 10 (by omega)⟩
    · exact ⟨0, by rw [P5.other _ (by simp)]; exact hz 11 (by omega)⟩
    ) (by omega)).mono ?_
  rintro _ w6 ⟨k6, ⟨hp, rfl, hwas⟩ | ⟨ns5, r6, cur6, cs5, hp, rfl, H6, B6, q6, hx5⟩⟩
  · exact ⟨rfl, K5.trans (kept_alloc2 j5 k6), .inl ⟨by (unfold pMsg; simp only [hp0, hp1, hp2, hp3_0, hp3_1, hp4, Option.bind_some]); exact pN3_none hp _, rfl, hwas.cast P5.size⟩⟩
  have K6 := K5.trans (kept_alloc2 j5 k6)
  replace k6 := kept_alloc2 j5 k6
  obtain rfl := hx5
  obtain ⟨n5_0, s5_0, n5_1, s5_1, n5_2, hp5_0, hp5_1, hp5_2, rfl⟩ := pN3_some hp
  simp only [List.map_cons, List.map_nil] at q6
  have P6 := P5.append q6
  have lp6 := lt_in B6.heap
  go_wp2_with fail
  refine (listSlotG_c H6 (fun k hk => by have := hgl k hk; have := K6.size; omega) B6 (by rw [P6.other (o + 12) (by simp)]; exact hz 12 (by omega))).mono ?_
  rintro _ w7 ⟨k7, ⟨hp, rfl, hwas⟩ | ⟨x6, r7, cur7, cs6, hp6, rfl, H7, B7, q7, hx6⟩⟩
  · exact ⟨rfl, K6.trans k7, .inl ⟨by (unfold pMsg; simp only [hp0, hp1, hp2, hp3_0, hp3_1, hp4, hp5_0, hp5_1, hp5_2, Option.bind_some]); rw [hp]; rfl, rfl, hwas.cast P6.size⟩⟩
  have K7 := K6.trans k7
  have P7 := P6.append q7
  obtain ⟨v6, rfl, l6⟩ := hx6
  have lp7 := lt_in B7.heap
  go_wp2_with fail
  refine (listIncG_c H7 (fun k hk => by have := hgl k hk; have := K7.size; omega) B7 (by rw [P7.other (o + 13) (by simp)]; exact hz 13 (by omega))).mono ?_
  rintro _ w8 ⟨k8, ⟨hp, rfl, hwas⟩ | ⟨x7, r8, cur8, cs7, hp7, rfl, H8, B8, q8, hx7⟩⟩
  · exact ⟨rfl, K7.trans k8, .inl ⟨by (unfold pMsg; simp only [hp0, hp1, hp2, hp3_0, hp3_1, hp4, hp5_0, hp5_1, hp5_2, hp6, Option.bind_some]); rw [hp]; rfl, rfl, hwas.cast P7.size⟩⟩
  have K8 := K7.trans k8
  have P8 := P7.append q8
  obtain ⟨v7, rfl, l7⟩ := hx7
  have lp8 := lt_in B8.heap
  go_wp2_with fail
  refine (listChangeG_c H8 (fun k hk => by have := hgl k hk; have := K8.size; omega) B8 (by rw [P8.other (o + 14) (by simp)]; exact hz 14 (by omega))).mono ?_
  rintro _ w9 ⟨k9, ⟨hp, rfl, hwas⟩ | ⟨x8, r9, cur9, cs8, hp8, rfl, H9, B9, q9, hx8⟩⟩
  · exact ⟨rfl, K8.trans k9, .inl ⟨by (unfold pMsg; simp only [hp0, hp1, hp2, hp3_0, hp3_1, hp4, hp5_0, hp5_1, hp5_2, hp6, hp7, Option.bind_some]); rw [hp]; rfl, rfl, hwas.cast P8.size⟩⟩
  have K9 := K8.trans k9
  have P9 := P8.append q9
  obtain ⟨v8, rfl, l8⟩ := hx8
  have lp9 := lt_in B9.heap
  go_wp2_with fail
  refine (infoG_c H9 (fun k hk => by have := hgl k hk; have := K9.size; omega) B9 (o := o + 15) (by
    intro f hf
    obtain rfl | rfl | rfl | rfl | rfl | rfl : f = 0 ∨ f = 1 ∨ f = 2 ∨ f = 3 ∨ f = 4 ∨ f = 5 := by omega
    · rw [P9.other _ (by simp)]; exact hz 15 (by omega)
    · rw [P9.other _ (by simp)]; exact hz 16 (by omega)
    · rw [P9.other _ (by simp)]; exact hz 17 (by omega)
    · rw [P9.other _ (by simp)]; exact hz 18 (by omega)
    · rw [P9.other _ (by simp)]; exact hz 19 (by omega)
    · rw [P9.other _ (by simp)]; exact hz 20 (by omega)
    )).mono ?_
  rintro _ w10 ⟨k10, ⟨hp, rfl, hwas⟩ | ⟨x9, r10, cur10, cs9, hp9, rfl, H10, B10, q10, hx9⟩⟩
  · exact ⟨rfl, K9.trans k10, .inl ⟨by (unfold pMsg; simp only [hp0, hp1, hp2, hp3_0, hp3_1, hp4, hp5_0, hp5_1, hp5_2, hp6, hp7, hp8, Option.bind_some]); rw [hp]; rfl, rfl, hwas.cast P9.size⟩⟩
  have K10 := K9.trans k10
  have P10 := P9.append q10
  obtain ⟨rfl, j9_0, j9_1, j9_2, j9_3, j9_4, j9_5⟩ := hx9
  have lp10 := lt_in B10.heap
  go_wp2_with fail
  refine (stateG_c H10 (fun k hk => by have := hgl k hk; have := K10.size; omega) B10 (o := o + 21) (by
    intro f hf
    obtain rfl | rfl | rfl | rfl | rfl | rfl : f = 0 ∨ f = 1 ∨ f = 2 ∨ f = 3 ∨ f = 4 ∨ f = 5 := by omega
    · rw [P10.other _ (by simp)]; exact hz 21 (by omega)
    · rw [P10.other _ (by simp)]; exact hz 22 (by omega)
    · rw [P10.other _ (by simp)]; exact hz 23 (by omega)
    · rw [P10.other _ (by simp)]; exact hz 24 (by omega)
    · rw [P10.other _ (by simp)]; exact hz 25 (by omega)
    · rw [P10.other _ (by simp)]; exact hz 26 (by omega)
    )).mono ?_
  rintro _ w11 ⟨k11, ⟨hp, rfl, hwas⟩ | ⟨x10, r11, cur11, cs10, hp10, rfl, H11, B11, q11, hx10⟩⟩
  · exact ⟨rfl, K10.trans k11, .inl ⟨by (unfold pMsg; simp only [hp0, hp1, hp2, hp3_0, hp3_1, hp4, hp5_0, hp5_1, hp5_2, hp6, hp7, hp8, hp9, Option.bind_some]); rw [hp]; rfl, rfl, hwas.cast P10.size⟩⟩
  have K11 := K10.trans k11
  have P11 := P10.append q11
  obtain ⟨u10_0, u10_1, u10_2, rfl, j10_0, j10_1, j10_2, l10_0, l10_1, l10_2⟩ := hx10
  have lp11 := lt_in B11.heap
  go_wp2_with fail
  refine (entryG_c H11 (fun k hk => by have := hgl k hk; have := K11.size; omega) B11 (o := o + 27) (by
    intro f hf
    obtain rfl | rfl | rfl | rfl | rfl | rfl | rfl : f = 0 ∨ f = 1 ∨ f = 2 ∨ f = 3 ∨ f = 4 ∨ f = 5 ∨ f = 6 := by omega
    · rw [P11.other _ (by simp)]; exact hz 27 (by omega)
    · rw [P11.other _ (by simp)]; exact hz 28 (by omega)
    · rw [P11.other _ (by simp)]; exact hz 29 (by omega)
    · rw [P11.other _ (by simp)]; exact hz 30 (by omega)
    · rw [P11.other _ (by simp)]; exact hz 31 (by omega)
    · rw [P11.other _ (by simp)]; exact hz 32 (by omega)
    · rw [P11.other _ (by simp)]; exact hz 33 (by omega)
    )).mono ?_
  rintro _ w12 ⟨k12, ⟨hp, rfl, hwas⟩ | ⟨x11, r12, cur12, cs11, hp11, rfl, H12, B12, q12, hx11⟩⟩
  · exact ⟨rfl, K11.trans k12, .inl ⟨by (unfold pMsg; simp only [hp0, hp1, hp2, hp3_0, hp3_1, hp4, hp5_0, hp5_1, hp5_2, hp6, hp7, hp8, hp9, hp10, Option.bind_some]); rw [hp]; rfl, rfl, hwas.cast P11.size⟩⟩
  have K12 := K11.trans k12
  have P12 := P11.append q12
  obtain ⟨rfl, j11_0, j11_1, j11_2, j11_3, j11_4⟩ := hx11
  have lp12 := lt_in B12.heap
  go_wp2_with fail
  refine (objectG_c H12 (fun k hk => by have := hgl k hk; have := K12.size; omega) B12 (o := o + 34) (by
    intro f hf
    obtain rfl | rfl | rfl | rfl : f = 0 ∨ f = 1 ∨ f = 2 ∨ f = 3 := by omega
    · rw [P12.other _ (by simp)]; exact hz 34 (by omega)
    · rw [P12.other _ (by simp)]; exact hz 35 (by omega)
    · rw [P12.other _ (by simp)]; exact hz 36 (by omega)
    · rw [P12.other _ (by simp)]; exact hz 37 (by omega)
    )).mono ?_
  rintro _ w13 ⟨k13, ⟨hp, rfl, hwas⟩ | ⟨x12, r13, cur13, cs12, hp12, rfl, H13, B13, q13, hx12⟩⟩
  · exact ⟨rfl, K12.trans k13, .inl ⟨by (unfold pMsg; simp only [hp0, hp1, hp2, hp3_0, hp3_1, hp4, hp5_0, hp5_1, hp5_2, hp6, hp7, hp8, hp9, hp10, hp11, Option.bind_some]); rw [hp]; rfl, rfl, hwas.cast P12.size⟩⟩
  have K13 := K12.trans k13
  have P13 := P12.append q13
  obtain ⟨u12_0, rfl, j12_0, j12_1, l12_0⟩ := hx12
  have lp13 := lt_in B13.heap
  go_wp2_with fail
  refine (opG_c H13 (fun k hk => by have := hgl k hk; have := K13.size; omega) B13 (o := o + 38) (by
    intro f hf
    obtain rfl | rfl | rfl | rfl | rfl : f = 0 ∨ f = 1 ∨ f = 2 ∨ f = 3 ∨ f = 4 := by omega
    · rw [P13.other _ (by simp)]; exact hz 38 (by omega)
    · rw [P13.other _ (by simp)]; exact hz 39 (by omega)
    · rw [P13.other _ (by simp)]; exact hz 40 (by omega)
    · rw [P13.other _ (by simp)]; exact hz 41 (by omega)
    · rw [P13.other _ (by simp)]; exact hz 42 (by omega)
    )).mono ?_
  rintro _ w14 ⟨k14, ⟨hp, rfl, hwas⟩ | ⟨x13, r14, cur14, cs13, hp13, rfl, H14, B14, q14, hx13⟩⟩
  · exact ⟨rfl, K13.trans k14, .inl ⟨by (unfold pMsg; simp only [hp0, hp1, hp2, hp3_0, hp3_1, hp4, hp5_0, hp5_1, hp5_2, hp6, hp7, hp8, hp9, hp10, hp11, hp12, Option.bind_some]); rw [hp]; rfl, rfl, hwas.cast P13.size⟩⟩
  have K14 := K13.trans k14
  have P14 := P13.append q14
  obtain ⟨u13_0, rfl, j13_0, j13_1, j13_2, l13_0⟩ := hx13
  have lp14 := lt_in B14.heap
  go_wp2_with fail
  refine (listItemG_c H14 (fun k hk => by have := hgl k hk; have := K14.size; omega) B14 (by rw [P14.other (o + 43) (by simp)]; exact hz 43 (by omega))).mono ?_
  rintro _ w15 ⟨k15, ⟨hp, rfl, hwas⟩ | ⟨x14, r15, cur15, cs14, hp14, rfl, H15, B15, q15, hx14⟩⟩
  · exact ⟨rfl, K14.trans k15, .inl ⟨by (unfold pMsg; simp only [hp0, hp1, hp2, hp3_0, hp3_1, hp4, hp5_0, hp5_1, hp5_2, hp6, hp7, hp8, hp9, hp10, hp11, hp12, hp13, Option.bind_some]); rw [hp]; rfl, rfl, hwas.cast P14.size⟩⟩
  have K15 := K14.trans k15
  have P15 := P14.append q15
  obtain ⟨v14, rfl, l14⟩ := hx14
  have lp15 := lt_in B15.heap
  go_wp2_with fail
  refine (listtextG_c H15 (fun k hk => by have := hgl k hk; have := K15.size; omega) B15 (by rw [P15.other (o + 44) (by simp)]; exact hz 44 (by omega))).mono ?_
  rintro _ w16 ⟨k16, ⟨hp, rfl, hwas⟩ | ⟨x15, r16, cur16, cs15, hp15, rfl, H16, B16, q16, hx15⟩⟩
  · exact ⟨rfl, K15.trans k16, .inl ⟨by (unfold pMsg; simp only [hp0, hp1, hp2, hp3_0, hp3_1, hp4, hp5_0, hp5_1, hp5_2, hp6, hp7, hp8, hp9, hp10, hp11, hp12, hp13, hp14, Option.bind_some]); rw [hp]; rfl, rfl, hwas.cast P15.size⟩⟩
  have K16 := K15.trans k16
  have P16 := P15.append q16
  obtain ⟨v15, rfl, l15⟩ := hx15
  go_wp2_with fail
  refine (errnoG_c H16 (fun k hk => by have := hgl k hk; have := K16.size; omega) B16 (by rw [P16.other (o + 45) (by simp)]; exact hz 45 (by omega))).mono ?_
  rintro _ w17 ⟨k17, ⟨hp, rfl, hwas⟩ | ⟨x16, r17, cur17, cs16, hp16, rfl, H17, B17, q17, hx16⟩⟩
  · exact ⟨rfl, K16.trans k17, .inl ⟨by (unfold pMsg; simp only [hp0, hp1, hp2, hp3_0, hp3_1, hp4, hp5_0, hp5_1, hp5_2, hp6, hp7, hp8, hp9, hp10, hp11, hp12, hp13, hp14, hp15, Option.bind_some]); rw [hp]; rfl, rfl, hwas.cast P16.size⟩⟩
  have K17 := K16.trans k17
  have P17 := P16.append q17
  obtain ⟨rfl, j16⟩ := hx16
  go_wp2
  have T17 := Kept.refl (fun k => k = c ∨ k = p) w17
  have T16 := k17.trans T17
  have T15 := k16.trans T16
  have T14 := k15.trans T15
  have T13 := k14.trans T14
  have T12 := k13.trans T13
  have T11 := k12.trans T12
  have T10 := k11.trans T11
  have T9 := k10.trans T10
  have T8 := k9.trans T9
  have T7 := k8.trans T8
  have T6 := k7.trans T7
  have T5 := k6.trans T6
  have T4 := k5.trans T5
  have T3 := k4.trans T4
  have T2 := k3.trans T3
  have T1 := k2.trans T2
  exact bodyPost_end (v := .tuple #[]) (by simp [results, Tryz.results31]) rfl ⟨K17, .inr ⟨⟨x0, x1, x2, n3_0, n3_1, x4, n5_0, n5_1, n5_2, x6, x7, x8, x9, x10, x11, x12, x13, x14, x15, x16⟩, r17, cur17, _, by (unfold pMsg; simp only [hp0, hp1, hp2, hp3_0, hp3_1, hp4, hp5_0, hp5_1, hp5_2, hp6, hp7, hp8, hp9, hp10, hp11, hp12, hp13, hp14, hp15, hp16, Option.bind_some]), rfl, H17, B17, P17, ⟨v6, v7, v8, u10_0, u10_1, u10_2, u12_0, u13_0, v14, v15, rfl, j0, j1_0, j1_1, j2_0, j2_1, (lawI.dec _ _ _ hp3_0).2, (lawI.dec _ _ _ hp3_1).2, j4_0, j4_1, (lawI.dec _ _ _ hp5_0).2, (lawI.dec _ _ _ hp5_1).2, (lawI.dec _ _ _ hp5_2).2, j9_0, j9_1, j9_2, j9_3, j9_4, j9_5, j10_0, j10_1, j10_2, j11_0, j11_1, j11_2, j11_3, j11_4, j12_0, j12_1, j13_0, j13_1, j13_2, j16, l6.late SlotT.stable K6.size T7 hlc hlp, l7.late IncT.stable K7.size T8 hlc hlp, l8.late ChangeT.stable K8.size T9 hlc hlp, l10_0.late EntryT.stable K10.size T11 hlc hlp, l10_1.late LastT.stable K10.size T11 hlc hlp, l10_2.late ItemT.stable K10.size T11 hlc hlp, l12_0.late byteIs_stable K12.size T13 hlc hlp, l13_0.late byteIs_stable K13.size T14 hlc hlp, l14.late ItemT.stable K14.size T15 hlc hlp, l15.late textIs_stable K15.size T16 hlc hlp⟩⟩⟩
end Go.Proofs.YtmbjealliinpdaaGreat
end
