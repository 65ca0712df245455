/- Structs of the wire layer, and the contracts of the document's writers of them. -/
import Derived.Test.YtanmfldgillodaaGreatTx0
set_option linter.unusedSimpArgs false
set_option linter.unusedVariables false
namespace Go.Proofs.YtanmfldgillodaaGreat
open Go.RowKit

structure VersionT where
  epoch : Int
  n : Int

def VersionT.Is (w : World) (S : Nat → Prop) (cs : List Value) (x : VersionT) : Prop := cs = [Value.int IntKind.i64 x.epoch, Value.int IntKind.i64 x.n] ∧ in64 x.epoch ∧ in64 x.n
def VersionT.enc (x : VersionT) : List UInt8 := [] ++ encI x.epoch ++ encI x.n
theorem VersionT.Is.heap {w w' : World} {S S' : Nat → Prop} {cs : List Value} {x : VersionT} (h : VersionT.Is w S cs x) : VersionT.Is w' S' cs x := h

set_option maxRecDepth 100000 in
set_option maxHeartbeats 1600000 in
theorem putVersion_c {w : World} {v : Value} {out : List UInt8} {g : Option Nat} (h : Own w 5 1 v out.length (out.map bv) g) (x : VersionT) (hi : in64 x.epoch ∧ in64 x.n) (hm : out.length + x.enc.length ≤ 90000000000000) :
    Calls Tryz.prog 129 #[v, .agg #[Value.int IntKind.i64 x.epoch, Value.int IntKind.i64 x.n]] w fun e w' => ∃ v', e = .returned v' ∧ Grew w w' v' out g x.enc := by
  obtain ⟨i0, i1⟩ := hi
  simp only [VersionT.enc] at hm ⊢
  obtain ⟨a0, c0, rfl, -, -⟩ := h.shape
  go_enter Tryz.func129, Tryz.ntmps129
  go_wp2_with fail
  have x0 : (w.alloc (Obj.cells #[Value.int IntKind.i64 x.epoch, Value.int IntKind.i64 x.n] 30)).heap[w.heap.size]? = some (Obj.cells #[Value.int IntKind.i64 x.epoch, Value.int IntKind.i64 x.n] 30) := heap_alloc_new' _ _
  have S0 := (Out.start h).alloc (Obj.cells #[Value.int IntKind.i64 x.epoch, Value.int IntKind.i64 x.n] 30)
  generalize w.alloc (Obj.cells #[Value.int IntKind.i64 x.epoch, Value.int IntKind.i64 x.n] 30) = w0 at x0 S0 ⊢
  refine (int_c S0.own x.epoch (by have := S0.len; simp only [List.length_append, List.length_nil, encI_length, bB_length, leB_length, encT_length, encBy_length] at this hm; omega)).mono ?_
  rintro e w1 ⟨v1, rfl, hG1⟩
  obtain ⟨L1, g1, S1⟩ := S0.then hG1
  obtain ⟨a1, c1, rfl, -, -⟩ := S1.own.shape
  have x1 : w1.heap[w.heap.size]? = some (Obj.cells #[Value.int IntKind.i64 x.epoch, Value.int IntKind.i64 x.n] 30) := (hG1.old _ (lt_in x0) (fun hh => S0.own.ne x0 (by decide) _ hh rfl)).trans x0
  have z1 : w1.cell? ⟨w.heap.size, 1, none⟩ = some (Value.int IntKind.i64 x.n) := cell_in x1
  have lx := lt_in x1
  go_wp2_with fail
  clear z1 lx
  refine (int_c S1.own x.n (by have := S1.len; simp only [List.length_append, List.length_nil, encI_length, bB_length, leB_length, encT_length, encBy_length] at this hm; omega)).mono ?_
  rintro e w2 ⟨v2, rfl, hG2⟩
  obtain ⟨L2, g2, S2⟩ := S1.then hG2
  obtain ⟨a2, c2, rfl, -, -⟩ := S2.own.shape
  have x2 : w2.heap[w.heap.size]? = some (Obj.cells #[Value.int IntKind.i64 x.epoch, Value.int IntKind.i64 x.n] 30) := (hG2.old _ (lt_in x1) (fun hh => S1.own.ne x1 (by decide) _ hh rfl)).trans x1
  go_wp2
  go_ret
  exact ⟨_, rfl, S2.done⟩

structure PgT where
  pool : Int
  seed : Int

def PgT.Is (w : World) (S : Nat → Prop) (cs : List Value) (x : PgT) : Prop := cs = [Value.int IntKind.i64 x.pool, Value.int IntKind.i64 x.seed] ∧ in64 x.pool ∧ in64 x.seed
def PgT.enc (x : PgT) : List UInt8 := [] ++ encI x.pool ++ encI x.seed
theorem PgT.Is.heap {w w' : World} {S S' : Nat → Prop} {cs : List Value} {x : PgT} (h : PgT.Is w S cs x) : PgT.Is w' S' cs x := h

set_option maxRecDepth 100000 in
set_option maxHeartbeats 1600000 in
theorem putPg_c {w : World} {v : Value} {out : List UInt8} {g : Option Nat} (h : Own w 5 1 v out.length (out.map bv) g) (x : PgT) (hi : in64 x.pool ∧ in64 x.seed) (hm : out.length + x.enc.length ≤ 90000000000000) :
    Calls Tryz.prog 83 #[v, .agg #[Value.int IntKind.i64 x.pool, Value.int IntKind.i64 x.seed]] w fun e w' => ∃ v', e = .returned v' ∧ Grew w w' v' out g x.enc := by
  obtain ⟨i0, i1⟩ := hi
  simp only [PgT.enc] at hm ⊢
  obtain ⟨a0, c0, rfl, -, -⟩ := h.shape
  go_enter Tryz.func83, Tryz.ntmps83
  go_wp2_with fail
  have x0 : (w.alloc (Obj.cells #[Value.int IntKind.i64 x.pool, Value.int IntKind.i64 x.seed] 25)).heap[w.heap.size]? = some (Obj.cells #[Value.int IntKind.i64 x.pool, Value.int IntKind.i64 x.seed] 25) := heap_alloc_new' _ _
  have S0 := (Out.start h).alloc (Obj.cells #[Value.int IntKind.i64 x.pool, Value.int IntKind.i64 x.seed] 25)
  generalize w.alloc (Obj.cells #[Value.int IntKind.i64 x.pool, Value.int IntKind.i64 x.seed] 25) = w0 at x0 S0 ⊢
  refine (int_c S0.own x.pool (by have := S0.len; simp only [List.length_append, List.length_nil, encI_length, bB_length, leB_length, encT_length, encBy_length] at this hm; omega)).mono ?_
  rintro e w1 ⟨v1, rfl, hG1⟩
  obtain ⟨L1, g1, S1⟩ := S0.then hG1
  obtain ⟨a1, c1, rfl, -, -⟩ := S1.own.shape
  have x1 : w1.heap[w.heap.size]? = some (Obj.cells #[Value.int IntKind.i64 x.pool, Value.int IntKind.i64 x.seed] 25) := (hG1.old _ (lt_in x0) (fun hh => S0.own.ne x0 (by decide) _ hh rfl)).trans x0
  have z1 : w1.cell? ⟨w.heap.size, 1, none⟩ = some (Value.int IntKind.i64 x.seed) := cell_in x1
  have lx := lt_in x1
  go_wp2_with fail
  clear z1 lx
  refine (int_c S1.own x.seed (by have := S1.len; simp only [List.length_append, List.length_nil, encI_length, bB_length, leB_length, encT_length, encBy_length] at this hm; omega)).mono ?_
  rintro e w2 ⟨v2, rfl, hG2⟩
  obtain ⟨L2, g2, S2⟩ := S1.then hG2
  obtain ⟨a2, c2, rfl, -, -⟩ := S2.own.shape
  have x2 : w2.heap[w.heap.size]? = some (Obj.cells #[Value.int IntKind.i64 x.pool, Value.int IntKind.i64 x.seed] 25) := (hG2.old _ (lt_in x1) (fun hh => S1.own.ne x1 (by decide) _ hh rfl)).trans x1
  go_wp2
  go_ret
  exact ⟨_, rfl, S2.done⟩

structure EntryT where
  version : VersionT
  remove : Bool
  errno : Int
  name : ByteArray
  client : Int
  number : Int

def EntryT.Is (w : World) (S : Nat → Prop) (cs : List Value) (x : EntryT) : Prop := cs = [Value.int IntKind.i64 x.version.epoch, Value.int IntKind.i64 x.version.n, Value.bool x.remove, Value.int IntKind.i64 x.errno, Value.string x.name, Value.int IntKind.i64 x.client, Value.int IntKind.i64 x.number] ∧ in64 x.version.epoch ∧ in64 x.version.n ∧ in64 x.errno ∧ in64 x.client ∧ in64 x.number
def EntryT.enc (x : EntryT) : List UInt8 := [] ++ x.version.enc ++ bB x.remove ++ encI x.errno ++ encT x.name ++ encI x.client ++ encI x.number
theorem EntryT.Is.heap {w w' : World} {S S' : Nat → Prop} {cs : List Value} {x : EntryT} (h : EntryT.Is w S cs x) : EntryT.Is w' S' cs x := h

set_option maxRecDepth 100000 in
set_option maxHeartbeats 1600000 in
theorem putEntry_c {w : World} {v : Value} {out : List UInt8} {g : Option Nat} (h : Own w 5 1 v out.length (out.map bv) g) (x : EntryT) (hi : in64 x.version.epoch ∧ in64 x.version.n ∧ in64 x.errno ∧ in64 x.client ∧ in64 x.number) (hm : out.length + x.enc.length ≤ 90000000000000) :
    Calls Tryz.prog 88 #[v, .agg #[Value.int IntKind.i64 x.version.epoch, Value.int IntKind.i64 x.version.n, Value.bool x.remove, Value.int IntKind.i64 x.errno, Value.string x.name, Value.int IntKind.i64 x.client, Value.int IntKind.i64 x.number]] w fun e w' => ∃ v', e = .returned v' ∧ Grew w w' v' out g x.enc := by
  obtain ⟨i0, i1, i2, i3, i4⟩ := hi
  simp only [EntryT.enc] at hm ⊢
  obtain ⟨a0, c0, rfl, -, -⟩ := h.shape
  go_enter Tryz.func88, Tryz.ntmps88
  go_wp2_with fail
  have x0 : (w.alloc (Obj.cells #[Value.int IntKind.i64 x.version.epoch, Value.int IntKind.i64 x.version.n, Value.bool x.remove, Value.int IntKind.i64 x.errno, Value.string x.name, Value.int IntKind.i64 x.client, Value.int IntKind.i64 x.number] 40)).heap[w.heap.size]? = some (Obj.cells #[Value.int IntKind.i64 x.version.epoch, Value.int IntKind.i64 x.version.n, Value.bool x.remove, Value.int IntKind.i64 x.errno, Value.string x.name, Value.int IntKind.i64 x.client, Value.int IntKind.i64 x.number] 40) := heap_alloc_new' _ _
  have S0 := (Out.start h).alloc (Obj.cells #[Value.int IntKind.i64 x.version.epoch, Value.int IntKind.i64 x.version.n, Value.bool x.remove, Value.int IntKind.i64 x.errno, Value.string x.name, Value.int IntKind.i64 x.client, Value.int IntKind.i64 x.number] 40)
  generalize w.alloc (Obj.cells #[Value.int IntKind.i64 x.version.epoch, Value.int IntKind.i64 x.version.n, Value.bool x.remove, Value.int IntKind.i64 x.errno, Value.string x.name, Value.int IntKind.i64 x.client, Value.int IntKind.i64 x.number] 40) = w0 at x0 S0 ⊢
  refine (putVersion_c S0.own x.version ⟨i0, i1⟩ (by have := S0.len; simp only [List.length_append, List.length_nil, encI_length, bB_length, leB_length, encT_length, encBy_length] at this hm; simp only [VersionT.enc, List.length_append, List.length_nil, encI_length, bB_length, leB_length, encT_length, encBy_length] at this hm ⊢; omega)).mono ?_
  rintro e w1 ⟨v1, rfl, hG1⟩
  obtain ⟨L1, g1, S1⟩ := S0.then hG1
  obtain ⟨a1, c1, rfl, -, -⟩ := S1.own.shape
  have x1 : w1.heap[w.heap.size]? = some (Obj.cells #[Value.int IntKind.i64 x.version.epoch, Value.int IntKind.i64 x.version.n, Value.bool x.remove, Value.int IntKind.i64 x.errno, Value.string x.name, Value.int IntKind.i64 x.client, Value.int IntKind.i64 x.number] 40) := (hG1.old _ (lt_in x0) (fun hh => S0.own.ne x0 (by decide) _ hh rfl)).trans x0
  have z2 : w1.cell? ⟨w.heap.size, 2, none⟩ = some (Value.bool x.remove) := cell_in x1
  have lx := lt_in x1
  go_wp2_with fail
  clear z2 lx
  refine (boolRef_c S1.own x.remove (by have := S1.len; simp only [List.length_append, List.length_nil, encI_length, bB_length, leB_length, encT_length, encBy_length] at this hm; omega)).mono ?_
  rintro e w2 ⟨v2, rfl, hG2⟩
  obtain ⟨L2, g2, S2⟩ := S1.then hG2
  obtain ⟨a2, c2, rfl, -, -⟩ := S2.own.shape
  have x2 : w2.heap[w.heap.size]? = some (Obj.cells #[Value.int IntKind.i64 x.version.epoch, Value.int IntKind.i64 x.version.n, Value.bool x.remove, Value.int IntKind.i64 x.errno, Value.string x.name, Value.int IntKind.i64 x.client, Value.int IntKind.i64 x.number] 40) := (hG2.old _ (lt_in x1) (fun hh => S1.own.ne x1 (by decide) _ hh rfl)).trans x1
  have z3 : w2.cell? ⟨w.heap.size, 3, none⟩ = some (Value.int IntKind.i64 x.errno) := cell_in x2
  have lx := lt_in x2
  go_wp2_with fail
  clear z3 lx
  refine (int_c S2.own x.errno (by have := S2.len; simp only [List.length_append, List.length_nil, encI_length, bB_length, leB_length, encT_length, encBy_length] at this hm; omega)).mono ?_
  rintro e w3 ⟨v3, rfl, hG3⟩
  obtain ⟨L3, g3, S3⟩ := S2.then hG3
  obtain ⟨a3, c3, rfl, -, -⟩ := S3.own.shape
  have x3 : w3.heap[w.heap.size]? = some (Obj.cells #[Value.int IntKind.i64 x.version.epoch, Value.int IntKind.i64 x.version.n, Value.bool x.remove, Value.int IntKind.i64 x.errno, Value.string x.name, Value.int IntKind.i64 x.client, Value.int IntKind.i64 x.number] 40) := (hG3.old _ (lt_in x2) (fun hh => S2.own.ne x2 (by decide) _ hh rfl)).trans x2
  have z4 : w3.cell? ⟨w.heap.size, 4, none⟩ = some (Value.string x.name) := cell_in x3
  have lx := lt_in x3
  have hcv3 := Go.Lib.run_convert_string_bytes (P := Tryz.prog) w3 9 41 5 x.name Tryz.underlying9 Tryz.underlying41 Tryz.underlying5
  have hKB3 := bytesWorld_kept (fun _ => False) w3 5 x.name
  have hRB3 := bytesWorld_reads w3 5 x.name (by unfold maxLen; simp only [List.length_append, List.length_nil, encI_length, bB_length, leB_length, encT_length, encBy_length] at hm; omega)
  generalize Go.Lib.bytesWorld w3 5 x.name = wb3 at hcv3 hKB3 hRB3
  obtain ⟨cap3, hcap3⟩ : ∃ cap, cap = grownCap w3 x.name.size 0 5 := ⟨_, rfl⟩
  rw [← hcap3] at hcv3 hRB3
  clear hcap3

  go_wp2_with fail
  have T3 : Out w wb3 _ out g _ _ _ := ⟨S3.own.kept hKB3 (fun _ _ h => h), S3.eq, S3.kept.trans (hKB3.mono (fun _ _ h => h.elim)), S3.new⟩
  have t3 := (hKB3.block _ (lt_in x3) (fun h => h)).trans x3
  have n3 : ∀ k, some w3.heap.size = some k → (g3) ≠ some k := fun k hk hg => by
    cases hk
    exact absurd (S3.own.lt _ hg) (by omega)
  have len3 : x.name.data.toList.length = x.name.size := by simp
  have R3 : Reads wb3 1 _ x.name.data.toList.length _ _ := hRB3
  rw [len3] at hRB3
  clear hcv3
  clear z4 lx
  refine (bytesRef_c (bs := x.name.data.toList) T3.own (by rw [len3]; exact hRB3) n3 (by rw [len3]; have := S3.len; simp only [List.length_append, List.length_nil, encI_length, bB_length, leB_length, encT_length, encBy_length] at this hm; omega)).mono ?_
  rw [len3]
  rintro e w4 ⟨v4, rfl, hG4⟩
  obtain ⟨L4, g4, S4⟩ := T3.then hG4
  obtain ⟨a4, c4, rfl, -, -⟩ := S4.own.shape
  have x4 : w4.heap[w.heap.size]? = some (Obj.cells #[Value.int IntKind.i64 x.version.epoch, Value.int IntKind.i64 x.version.n, Value.bool x.remove, Value.int IntKind.i64 x.errno, Value.string x.name, Value.int IntKind.i64 x.client, Value.int IntKind.i64 x.number] 40) := (hG4.old _ (lt_in t3) (fun hh => T3.own.ne t3 (by decide) _ hh rfl)).trans t3
  have z5 : w4.cell? ⟨w.heap.size, 5, none⟩ = some (Value.int IntKind.i64 x.client) := cell_in x4
  have lx := lt_in x4
  go_wp2_with fail
  clear z5 lx
  refine (int_c S4.own x.client (by have := S4.len; simp only [List.length_append, List.length_nil, encI_length, bB_length, leB_length, encT_length, encBy_length] at this hm; omega)).mono ?_
  rintro e w5 ⟨v5, rfl, hG5⟩
  obtain ⟨L5, g5, S5⟩ := S4.then hG5
  obtain ⟨a5, c5, rfl, -, -⟩ := S5.own.shape
  have x5 : w5.heap[w.heap.size]? = some (Obj.cells #[Value.int IntKind.i64 x.version.epoch, Value.int IntKind.i64 x.version.n, Value.bool x.remove, Value.int IntKind.i64 x.errno, Value.string x.name, Value.int IntKind.i64 x.client, Value.int IntKind.i64 x.number] 40) := (hG5.old _ (lt_in x4) (fun hh => S4.own.ne x4 (by decide) _ hh rfl)).trans x4
  have z6 : w5.cell? ⟨w.heap.size, 6, none⟩ = some (Value.int IntKind.i64 x.number) := cell_in x5
  have lx := lt_in x5
  go_wp2_with fail
  clear z6 lx
  refine (int_c S5.own x.number (by have := S5.len; simp only [List.length_append, List.length_nil, encI_length, bB_length, leB_length, encT_length, encBy_length] at this hm; omega)).mono ?_
  rintro e w6 ⟨v6, rfl, hG6⟩
  obtain ⟨L6, g6, S6⟩ := S5.then hG6
  obtain ⟨a6, c6, rfl, -, -⟩ := S6.own.shape
  have x6 : w6.heap[w.heap.size]? = some (Obj.cells #[Value.int IntKind.i64 x.version.epoch, Value.int IntKind.i64 x.version.n, Value.bool x.remove, Value.int IntKind.i64 x.errno, Value.string x.name, Value.int IntKind.i64 x.client, Value.int IntKind.i64 x.number] 40) := (hG6.old _ (lt_in x5) (fun hh => S5.own.ne x5 (by decide) _ hh rfl)).trans x5
  go_wp2
  go_ret
  exact ⟨_, rfl, S6.done⟩

structure LastT where
  client : Int
  number : Int
  errno : Int
  version : VersionT

def LastT.Is (w : World) (S : Nat → Prop) (cs : List Value) (x : LastT) : Prop := cs = [Value.int IntKind.i64 x.client, Value.int IntKind.i64 x.number, Value.int IntKind.i64 x.errno, Value.int IntKind.i64 x.version.epoch, Value.int IntKind.i64 x.version.n] ∧ in64 x.client ∧ in64 x.number ∧ in64 x.errno ∧ in64 x.version.epoch ∧ in64 x.version.n
def LastT.enc (x : LastT) : List UInt8 := [] ++ encI x.client ++ encI x.number ++ encI x.errno ++ x.version.enc
theorem LastT.Is.heap {w w' : World} {S S' : Nat → Prop} {cs : List Value} {x : LastT} (h : LastT.Is w S cs x) : LastT.Is w' S' cs x := h

set_option maxRecDepth 100000 in
set_option maxHeartbeats 1600000 in
theorem putLast_c {w : World} {v : Value} {out : List UInt8} {g : Option Nat} (h : Own w 5 1 v out.length (out.map bv) g) (x : LastT) (hi : in64 x.client ∧ in64 x.number ∧ in64 x.errno ∧ in64 x.version.epoch ∧ in64 x.version.n) (hm : out.length + x.enc.length ≤ 90000000000000) :
    Calls Tryz.prog 130 #[v, .agg #[Value.int IntKind.i64 x.client, Value.int IntKind.i64 x.number, Value.int IntKind.i64 x.errno, Value.int IntKind.i64 x.version.epoch, Value.int IntKind.i64 x.version.n]] w fun e w' => ∃ v', e = .returned v' ∧ Grew w w' v' out g x.enc := by
  obtain ⟨i0, i1, i2, i3, i4⟩ := hi
  simp only [LastT.enc] at hm ⊢
  obtain ⟨a0, c0, rfl, -, -⟩ := h.shape
  go_enter Tryz.func130, Tryz.ntmps130
  go_wp2_with fail
  have x0 : (w.alloc (Obj.cells #[Value.int IntKind.i64 x.client, Value.int IntKind.i64 x.number, Value.int IntKind.i64 x.errno, Value.int IntKind.i64 x.version.epoch, Value.int IntKind.i64 x.version.n] 236)).heap[w.heap.size]? = some (Obj.cells #[Value.int IntKind.i64 x.client, Value.int IntKind.i64 x.number, Value.int IntKind.i64 x.errno, Value.int IntKind.i64 x.version.epoch, Value.int IntKind.i64 x.version.n] 236) := heap_alloc_new' _ _
  have S0 := (Out.start h).alloc (Obj.cells #[Value.int IntKind.i64 x.client, Value.int IntKind.i64 x.number, Value.int IntKind.i64 x.errno, Value.int IntKind.i64 x.version.epoch, Value.int IntKind.i64 x.version.n] 236)
  generalize w.alloc (Obj.cells #[Value.int IntKind.i64 x.client, Value.int IntKind.i64 x.number, Value.int IntKind.i64 x.errno, Value.int IntKind.i64 x.version.epoch, Value.int IntKind.i64 x.version.n] 236) = w0 at x0 S0 ⊢
  refine (int_c S0.own x.client (by have := S0.len; simp only [List.length_append, List.length_nil, encI_length, bB_length, leB_length, encT_length, encBy_length] at this hm; omega)).mono ?_
  rintro e w1 ⟨v1, rfl, hG1⟩
  obtain ⟨L1, g1, S1⟩ := S0.then hG1
  obtain ⟨a1, c1, rfl, -, -⟩ := S1.own.shape
  have x1 : w1.heap[w.heap.size]? = some (Obj.cells #[Value.int IntKind.i64 x.client, Value.int IntKind.i64 x.number, Value.int IntKind.i64 x.errno, Value.int IntKind.i64 x.version.epoch, Value.int IntKind.i64 x.version.n] 236) := (hG1.old _ (lt_in x0) (fun hh => S0.own.ne x0 (by decide) _ hh rfl)).trans x0
  have z1 : w1.cell? ⟨w.heap.size, 1, none⟩ = some (Value.int IntKind.i64 x.number) := cell_in x1
  have lx := lt_in x1
  go_wp2_with fail
  clear z1 lx
  refine (int_c S1.own x.number (by have := S1.len; simp only [List.length_append, List.length_nil, encI_length, bB_length, leB_length, encT_length, encBy_length] at this hm; omega)).mono ?_
  rintro e w2 ⟨v2, rfl, hG2⟩
  obtain ⟨L2, g2, S2⟩ := S1.then hG2
  obtain ⟨a2, c2, rfl, -, -⟩ := S2.own.shape
  have x2 : w2.heap[w.heap.size]? = some (Obj.cells #[Value.int IntKind.i64 x.client, Value.int IntKind.i64 x.number, Value.int IntKind.i64 x.errno, Value.int IntKind.i64 x.version.epoch, Value.int IntKind.i64 x.version.n] 236) := (hG2.old _ (lt_in x1) (fun hh => S1.own.ne x1 (by decide) _ hh rfl)).trans x1
  have z2 : w2.cell? ⟨w.heap.size, 2, none⟩ = some (Value.int IntKind.i64 x.errno) := cell_in x2
  have lx := lt_in x2
  go_wp2_with fail
  clear z2 lx
  refine (int_c S2.own x.errno (by have := S2.len; simp only [List.length_append, List.length_nil, encI_length, bB_length, leB_length, encT_length, encBy_length] at this hm; omega)).mono ?_
  rintro e w3 ⟨v3, rfl, hG3⟩
  obtain ⟨L3, g3, S3⟩ := S2.then hG3
  obtain ⟨a3, c3, rfl, -, -⟩ := S3.own.shape
  have x3 : w3.heap[w.heap.size]? = some (Obj.cells #[Value.int IntKind.i64 x.client, Value.int IntKind.i64 x.number, Value.int IntKind.i64 x.errno, Value.int IntKind.i64 x.version.epoch, Value.int IntKind.i64 x.version.n] 236) := (hG3.old _ (lt_in x2) (fun hh => S2.own.ne x2 (by decide) _ hh rfl)).trans x2
  have z3 : w3.cell? ⟨w.heap.size, 3, none⟩ = some (Value.int IntKind.i64 x.version.epoch) := cell_in x3
  have z4 : w3.cell? ⟨w.heap.size, 4, none⟩ = some (Value.int IntKind.i64 x.version.n) := cell_in x3
  have lx := lt_in x3
  go_wp2_with fail
  clear z3 z4 lx
  refine (putVersion_c S3.own x.version ⟨i3, i4⟩ (by have := S3.len; simp only [List.length_append, List.length_nil, encI_length, bB_length, leB_length, encT_length, encBy_length] at this hm; simp only [VersionT.enc, List.length_append, List.length_nil, encI_length, bB_length, leB_length, encT_length, encBy_length] at this hm ⊢; omega)).mono ?_
  rintro e w4 ⟨v4, rfl, hG4⟩
  obtain ⟨L4, g4, S4⟩ := S3.then hG4
  obtain ⟨a4, c4, rfl, -, -⟩ := S4.own.shape
  have x4 : w4.heap[w.heap.size]? = some (Obj.cells #[Value.int IntKind.i64 x.client, Value.int IntKind.i64 x.number, Value.int IntKind.i64 x.errno, Value.int IntKind.i64 x.version.epoch, Value.int IntKind.i64 x.version.n] 236) := (hG4.old _ (lt_in x3) (fun hh => S3.own.ne x3 (by decide) _ hh rfl)).trans x3
  go_wp2
  go_ret
  exact ⟨_, rfl, S4.done⟩

structure ItemT where
  name : ByteArray
  version : VersionT
  crc : Nat

def ItemT.Is (w : World) (S : Nat → Prop) (cs : List Value) (x : ItemT) : Prop := cs = [Value.string x.name, Value.int IntKind.i64 x.version.epoch, Value.int IntKind.i64 x.version.n, Value.int IntKind.u32 (x.crc : Nat)] ∧ in64 x.version.epoch ∧ in64 x.version.n ∧ x.crc < 4294967296
def ItemT.enc (x : ItemT) : List UInt8 := [] ++ encT x.name ++ x.version.enc ++ leB 4 x.crc
theorem ItemT.Is.heap {w w' : World} {S S' : Nat → Prop} {cs : List Value} {x : ItemT} (h : ItemT.Is w S cs x) : ItemT.Is w' S' cs x := h

set_option maxRecDepth 100000 in
set_option maxHeartbeats 1600000 in
theorem putItem_c {w : World} {v : Value} {out : List UInt8} {g : Option Nat} (h : Own w 5 1 v out.length (out.map bv) g) (x : ItemT) (hi : in64 x.version.epoch ∧ in64 x.version.n ∧ x.crc < 4294967296) (hm : out.length + x.enc.length ≤ 90000000000000) :
    Calls Tryz.prog 91 #[v, .agg #[Value.string x.name, Value.int IntKind.i64 x.version.epoch, Value.int IntKind.i64 x.version.n, Value.int IntKind.u32 (x.crc : Nat)]] w fun e w' => ∃ v', e = .returned v' ∧ Grew w w' v' out g x.enc := by
  obtain ⟨i0, i1, i2⟩ := hi
  simp only [ItemT.enc] at hm ⊢
  obtain ⟨a0, c0, rfl, -, -⟩ := h.shape
  go_enter Tryz.func91, Tryz.ntmps91
  go_wp2_with fail
  have x0 : (w.alloc (Obj.cells #[Value.string x.name, Value.int IntKind.i64 x.version.epoch, Value.int IntKind.i64 x.version.n, Value.int IntKind.u32 (x.crc : Nat)] 175)).heap[w.heap.size]? = some (Obj.cells #[Value.string x.name, Value.int IntKind.i64 x.version.epoch, Value.int IntKind.i64 x.version.n, Value.int IntKind.u32 (x.crc : Nat)] 175) := heap_alloc_new' _ _
  have S0 := (Out.start h).alloc (Obj.cells #[Value.string x.name, Value.int IntKind.i64 x.version.epoch, Value.int IntKind.i64 x.version.n, Value.int IntKind.u32 (x.crc : Nat)] 175)
  generalize w.alloc (Obj.cells #[Value.string x.name, Value.int IntKind.i64 x.version.epoch, Value.int IntKind.i64 x.version.n, Value.int IntKind.u32 (x.crc : Nat)] 175) = w0 at x0 S0 ⊢
  have z0 : w0.cell? ⟨w.heap.size, 0, none⟩ = some (Value.string x.name) := cell_in x0
  have lx := lt_in x0
  have hcv0 := Go.Lib.run_convert_string_bytes (P := Tryz.prog) w0 9 41 5 x.name Tryz.underlying9 Tryz.underlying41 Tryz.underlying5
  have hKB0 := bytesWorld_kept (fun _ => False) w0 5 x.name
  have hRB0 := bytesWorld_reads w0 5 x.name (by unfold maxLen; simp only [List.length_append, List.length_nil, encI_length, bB_length, leB_length, encT_length, encBy_length] at hm; omega)
  generalize Go.Lib.bytesWorld w0 5 x.name = wb0 at hcv0 hKB0 hRB0
  obtain ⟨cap0, hcap0⟩ : ∃ cap, cap = grownCap w0 x.name.size 0 5 := ⟨_, rfl⟩
  rw [← hcap0] at hcv0 hRB0
  clear hcap0
  rw [hcv0]
  go_simp
  go_wp2_with fail
  have T0 : Out w wb0 _ out g _ _ _ := ⟨S0.own.kept hKB0 (fun _ _ h => h), S0.eq, S0.kept.trans (hKB0.mono (fun _ _ h => h.elim)), S0.new⟩
  have t0 := (hKB0.block _ (lt_in x0) (fun h => h)).trans x0
  have n0 : ∀ k, some w0.heap.size = some k → (g) ≠ some k := fun k hk hg => by
    cases hk
    exact absurd (S0.own.lt _ hg) (by omega)
  have len0 : x.name.data.toList.length = x.name.size := by simp
  have R0 : Reads wb0 1 _ x.name.data.toList.length _ _ := hRB0
  rw [len0] at hRB0
  clear hcv0
  clear z0 lx
  refine (bytesRef_c (bs := x.name.data.toList) T0.own (by rw [len0]; exact hRB0) n0 (by rw [len0]; have := S0.len; simp only [List.length_append, List.length_nil, encI_length, bB_length, leB_length, encT_length, encBy_length] at this hm; omega)).mono ?_
  rw [len0]
  rintro e w1 ⟨v1, rfl, hG1⟩
  obtain ⟨L1, g1, S1⟩ := T0.then hG1
  obtain ⟨a1, c1, rfl, -, -⟩ := S1.own.shape
  have x1 : w1.heap[w.heap.size]? = some (Obj.cells #[Value.string x.name, Value.int IntKind.i64 x.version.epoch, Value.int IntKind.i64 x.version.n, Value.int IntKind.u32 (x.crc : Nat)] 175) := (hG1.old _ (lt_in t0) (fun hh => T0.own.ne t0 (by decide) _ hh rfl)).trans t0
  have z1 : w1.cell? ⟨w.heap.size, 1, none⟩ = some (Value.int IntKind.i64 x.version.epoch) := cell_in x1
  have z2 : w1.cell? ⟨w.heap.size, 2, none⟩ = some (Value.int IntKind.i64 x.version.n) := cell_in x1
  have lx := lt_in x1
  go_wp2_with fail
  clear z1 z2 lx
  refine (putVersion_c S1.own x.version ⟨i0, i1⟩ (by have := S1.len; simp only [List.length_append, List.length_nil, encI_length, bB_length, leB_length, encT_length, encBy_length] at this hm; simp only [VersionT.enc, List.length_append, List.length_nil, encI_length, bB_length, leB_length, encT_length, encBy_length] at this hm ⊢; omega)).mono ?_
  rintro e w2 ⟨v2, rfl, hG2⟩
  obtain ⟨L2, g2, S2⟩ := S1.then hG2
  obtain ⟨a2, c2, rfl, -, -⟩ := S2.own.shape
  have x2 : w2.heap[w.heap.size]? = some (Obj.cells #[Value.string x.name, Value.int IntKind.i64 x.version.epoch, Value.int IntKind.i64 x.version.n, Value.int IntKind.u32 (x.crc : Nat)] 175) := (hG2.old _ (lt_in x1) (fun hh => S1.own.ne x1 (by decide) _ hh rfl)).trans x1
  have z3 : w2.cell? ⟨w.heap.size, 3, none⟩ = some (Value.int IntKind.u32 (x.crc : Nat)) := cell_in x2
  have lx := lt_in x2
  go_wp2_with fail
  clear z3 lx
  refine (word4_c S2.own x.crc i2 (by have := S2.len; simp only [List.length_append, List.length_nil, encI_length, bB_length, leB_length, encT_length, encBy_length] at this hm; omega)).mono ?_
  rintro e w3 ⟨v3, rfl, hG3⟩
  obtain ⟨L3, g3, S3⟩ := S2.then hG3
  obtain ⟨a3, c3, rfl, -, -⟩ := S3.own.shape
  have x3 : w3.heap[w.heap.size]? = some (Obj.cells #[Value.string x.name, Value.int IntKind.i64 x.version.epoch, Value.int IntKind.i64 x.version.n, Value.int IntKind.u32 (x.crc : Nat)] 175) := (hG3.old _ (lt_in x2) (fun hh => S2.own.ne x2 (by decide) _ hh rfl)).trans x2
  go_wp2
  go_ret
  exact ⟨_, rfl, S3.done⟩

structure StateT where
  les : Int
  tail : VersionT
  log : List EntryT
  lasts : List LastT
  items : List ItemT

def StateT.Is (w : World) (S : Nat → Prop) (cs : List Value) (x : StateT) : Prop := ∃ v_log v_lasts v_items : Value, cs = [Value.int IntKind.i64 x.les, Value.int IntKind.i64 x.tail.epoch, Value.int IntKind.i64 x.tail.n, v_log, v_lasts, v_items] ∧ in64 x.les ∧ in64 x.tail.epoch ∧ in64 x.tail.n ∧ ListIs 7 EntryT.Is w S v_log x.log ∧ ListIs 5 LastT.Is w S v_lasts x.lasts ∧ ListIs 4 ItemT.Is w S v_items x.items
def StateT.enc (x : StateT) : List UInt8 := [] ++ encI x.les ++ x.tail.enc ++ leB 4 x.log.length ++ x.log.flatMap EntryT.enc ++ leB 4 x.lasts.length ++ x.lasts.flatMap LastT.enc ++ leB 4 x.items.length ++ x.items.flatMap ItemT.enc
theorem StateT.Is.heap {w w' : World} {S S' : Nat → Prop} {cs : List Value} {x : StateT} (h : StateT.Is w S cs x) (hS : ∀ k, S k → S' k) (hk : ∀ k, S k → w'.heap[k]? = w.heap[k]?) : StateT.Is w' S' cs x := by
  obtain ⟨v_log, v_lasts, v_items, rfl, i0, i1, i2, l0, l1, l2⟩ := h
  exact ⟨v_log, v_lasts, v_items, rfl, i0, i1, i2, l0.heap (fun _ _ h => EntryT.Is.heap h) hS hk, l1.heap (fun _ _ h => LastT.Is.heap h) hS hk, l2.heap (fun _ _ h => ItemT.Is.heap h) hS hk⟩

set_option maxRecDepth 100000 in
set_option maxHeartbeats 1600000 in
theorem putState_c {w : World} {v : Value} {out : List UInt8} {g : Option Nat} (h : Own w 5 1 v out.length (out.map bv) g) {S : Nat → Prop} (hS : ∀ k, S k → k < w.heap.size ∧ g ≠ some k) (x : StateT) {cs : List Value} (hx : StateT.Is w S cs x) (hm : out.length + x.enc.length ≤ 90000000000000) :
    Calls Tryz.prog 53 #[v, .agg cs.toArray] w fun e w' => ∃ v', e = .returned v' ∧ Grew w w' v' out g x.enc := by
  obtain ⟨v_log, v_lasts, v_items, rfl, i0, i1, i2, l0, l1, l2⟩ := hx
  obtain ⟨a_v_log, c_v_log, rfl, -⟩ := l0.shape
  obtain ⟨a_v_lasts, c_v_lasts, rfl, -⟩ := l1.shape
  obtain ⟨a_v_items, c_v_items, rfl, -⟩ := l2.shape
  simp only [StateT.enc] at hm ⊢
  obtain ⟨a0, c0, rfl, -, -⟩ := h.shape
  go_enter Tryz.func53, Tryz.ntmps53
  go_wp2_with fail
  have x0 : (w.alloc (Obj.cells #[Value.int IntKind.i64 x.les, Value.int IntKind.i64 x.tail.epoch, Value.int IntKind.i64 x.tail.n, Value.slice a_v_log x.log.length c_v_log, Value.slice a_v_lasts x.lasts.length c_v_lasts, Value.slice a_v_items x.items.length c_v_items] 37)).heap[w.heap.size]? = some (Obj.cells #[Value.int IntKind.i64 x.les, Value.int IntKind.i64 x.tail.epoch, Value.int IntKind.i64 x.tail.n, Value.slice a_v_log x.log.length c_v_log, Value.slice a_v_lasts x.lasts.length c_v_lasts, Value.slice a_v_items x.items.length c_v_items] 37) := heap_alloc_new' _ _
  have S0 := (Out.start h).alloc (Obj.cells #[Value.int IntKind.i64 x.les, Value.int IntKind.i64 x.tail.epoch, Value.int IntKind.i64 x.tail.n, Value.slice a_v_log x.log.length c_v_log, Value.slice a_v_lasts x.lasts.length c_v_lasts, Value.slice a_v_items x.items.length c_v_items] 37)
  generalize w.alloc (Obj.cells #[Value.int IntKind.i64 x.les, Value.int IntKind.i64 x.tail.epoch, Value.int IntKind.i64 x.tail.n, Value.slice a_v_log x.log.length c_v_log, Value.slice a_v_lasts x.lasts.length c_v_lasts, Value.slice a_v_items x.items.length c_v_items] 37) = w0 at x0 S0 ⊢
  refine (int_c S0.own x.les (by have := S0.len; simp only [List.length_append, List.length_nil, encI_length, bB_length, leB_length, encT_length, encBy_length] at this hm; omega)).mono ?_
  rintro e w1 ⟨v1, rfl, hG1⟩
  obtain ⟨L1, g1, S1⟩ := S0.then hG1
  obtain ⟨a1, c1, rfl, -, -⟩ := S1.own.shape
  have x1 : w1.heap[w.heap.size]? = some (Obj.cells #[Value.int IntKind.i64 x.les, Value.int IntKind.i64 x.tail.epoch, Value.int IntKind.i64 x.tail.n, Value.slice a_v_log x.log.length c_v_log, Value.slice a_v_lasts x.lasts.length c_v_lasts, Value.slice a_v_items x.items.length c_v_items] 37) := (hG1.old _ (lt_in x0) (fun hh => S0.own.ne x0 (by decide) _ hh rfl)).trans x0
  have z1 : w1.cell? ⟨w.heap.size, 1, none⟩ = some (Value.int IntKind.i64 x.tail.epoch) := cell_in x1
  have z2 : w1.cell? ⟨w.heap.size, 2, none⟩ = some (Value.int IntKind.i64 x.tail.n) := cell_in x1
  have lx := lt_in x1
  go_wp2_with fail
  clear z1 z2 lx
  refine (putVersion_c S1.own x.tail ⟨i1, i2⟩ (by have := S1.len; simp only [List.length_append, List.length_nil, encI_length, bB_length, leB_length, encT_length, encBy_length] at this hm; simp only [VersionT.enc, List.length_append, List.length_nil, encI_length, bB_length, leB_length, encT_length, encBy_length] at this hm ⊢; omega)).mono ?_
  rintro e w2 ⟨v2, rfl, hG2⟩
  obtain ⟨L2, g2, S2⟩ := S1.then hG2
  obtain ⟨a2, c2, rfl, -, -⟩ := S2.own.shape
  have x2 : w2.heap[w.heap.size]? = some (Obj.cells #[Value.int IntKind.i64 x.les, Value.int IntKind.i64 x.tail.epoch, Value.int IntKind.i64 x.tail.n, Value.slice a_v_log x.log.length c_v_log, Value.slice a_v_lasts x.lasts.length c_v_lasts, Value.slice a_v_items x.items.length c_v_items] 37) := (hG2.old _ (lt_in x1) (fun hh => S1.own.ne x1 (by decide) _ hh rfl)).trans x1
  have z3 : w2.cell? ⟨w.heap.size, 3, none⟩ = some (Value.slice a_v_log x.log.length c_v_log) := cell_in x2
  have lx := lt_in x2
  go_wp2_with fail
  clear z3 lx
  refine (countRef_c S2.own x.log.length (by have := S2.len; simp only [List.length_append, List.length_nil, encI_length, bB_length, leB_length, encT_length, encBy_length] at this hm; omega)).mono ?_
  rintro e w3 ⟨v3, rfl, hG3⟩
  obtain ⟨L3, g3, S3⟩ := S2.then hG3
  obtain ⟨a3, c3, rfl, -, -⟩ := S3.own.shape
  have x3 : w3.heap[w.heap.size]? = some (Obj.cells #[Value.int IntKind.i64 x.les, Value.int IntKind.i64 x.tail.epoch, Value.int IntKind.i64 x.tail.n, Value.slice a_v_log x.log.length c_v_log, Value.slice a_v_lasts x.lasts.length c_v_lasts, Value.slice a_v_items x.items.length c_v_items] 37) := (hG3.old _ (lt_in x2) (fun hh => S2.own.ne x2 (by decide) _ hh rfl)).trans x2
  have z3 : w3.cell? ⟨w.heap.size, 3, none⟩ = some (Value.slice a_v_log x.log.length c_v_log) := cell_in x3
  have lx := lt_in x3
  go_wp2
  clear z3 lx
  go_loopw [27, 0] (fun i o w' => ∃ (k : Nat) (L : List UInt8) (gL : Option Nat), k ≤ x.log.length ∧ i = .int .i64 k ∧ Out w w' o out g (([] ++ encI x.les ++ x.tail.enc ++ leB 4 x.log.length) ++ (x.log.take k).flatMap EntryT.enc) L gL ∧ w'.heap[w.heap.size]? = some (Obj.cells #[Value.int IntKind.i64 x.les, Value.int IntKind.i64 x.tail.epoch, Value.int IntKind.i64 x.tail.n, Value.slice a_v_log x.log.length c_v_log, Value.slice a_v_lasts x.lasts.length c_v_lasts, Value.slice a_v_items x.items.length c_v_items] 37)) (fun i _ _ => x.log.length - (intOf i).toNat)
  case atStart => exact ⟨0, L3, g3, by omega, rfl, S3.cast (by simp), x3⟩
  case round =>
    obtain ⟨k, L, gL, hk, rfl, SL, xl⟩ := hrel
    by_cases hk2 : k < x.log.length
    · have hki : (k : Int) < (x.log.length : Int) := by omega
      have hnl : x.log.length ≤ 9223372036854775807 := l0.small
      have hd := SL.data hS
      obtain ⟨b, off, cs, rfl, hb, hcl, hcell, hr⟩ := (l0.heap (fun _ _ h => EntryT.Is.heap h) (fun _ h => h) hd).at hk2
      have hfl := flatMap_le EntryT.enc x.log (k + 1)
      have hft := flatMap_take EntryT.enc x.log k hk2
      rw [hft, List.length_append] at hfl
      obtain ⟨e, he⟩ : ∃ e, e = x.log[k] := ⟨_, rfl⟩
      rw [← he] at hr hft hfl
      have HFT := Lib.hid hft
      clear hft he hcl
      obtain ⟨aL, cL, rfl, -, -⟩ := SL.own.shape
      have hr0 := hr
      obtain ⟨rfl, j0, j1, j2, j3, j4⟩ := hr
      have y0 : wr.cell? ⟨b, off + k * 7, none⟩ = some (Value.int IntKind.i64 e.version.epoch) := hcell 0 (by omega)
      have y1 : wr.cell? ⟨b, off + k * 7 + 1, none⟩ = some (Value.int IntKind.i64 e.version.n) := hcell 1 (by omega)
      have y2 : wr.cell? ⟨b, off + k * 7 + 2, none⟩ = some (Value.bool e.remove) := hcell 2 (by omega)
      have y3 : wr.cell? ⟨b, off + k * 7 + 3, none⟩ = some (Value.int IntKind.i64 e.errno) := hcell 3 (by omega)
      have y4 : wr.cell? ⟨b, off + k * 7 + 4, none⟩ = some (Value.string e.name) := hcell 4 (by omega)
      have y5 : wr.cell? ⟨b, off + k * 7 + 5, none⟩ = some (Value.int IntKind.i64 e.client) := hcell 5 (by omega)
      have y6 : wr.cell? ⟨b, off + k * 7 + 6, none⟩ = some (Value.int IntKind.i64 e.number) := hcell 6 (by omega)
      go_wp2_with fail
      have SA := SL.alloc (Obj.cells #[Value.int IntKind.i64 e.version.epoch, Value.int IntKind.i64 e.version.n, Value.bool e.remove, Value.int IntKind.i64 e.errno, Value.string e.name, Value.int IntKind.i64 e.client, Value.int IntKind.i64 e.number] 40)
      have xa : (wr.alloc (Obj.cells #[Value.int IntKind.i64 e.version.epoch, Value.int IntKind.i64 e.version.n, Value.bool e.remove, Value.int IntKind.i64 e.errno, Value.string e.name, Value.int IntKind.i64 e.client, Value.int IntKind.i64 e.number] 40)).heap[w.heap.size]? = _ := (Below.heap_alloc _ _ _ (lt_in xl)).trans xl
      generalize wr.alloc (Obj.cells #[Value.int IntKind.i64 e.version.epoch, Value.int IntKind.i64 e.version.n, Value.bool e.remove, Value.int IntKind.i64 e.errno, Value.string e.name, Value.int IntKind.i64 e.client, Value.int IntKind.i64 e.number] 40) = wa at SA xa ⊢
      refine (putEntry_c SA.own e ⟨j0, j1, j2, j3, j4⟩ (by have := SL.len; simp only [List.length_append, List.length_nil, encI_length, bB_length, leB_length, encT_length, encBy_length] at this hm hfl; omega)).mono ?_
      rintro _ w9 ⟨v9, rfl, hG⟩
      obtain ⟨L9, g9, S9⟩ := SA.then hG
      have xl9 : w9.heap[w.heap.size]? = _ := (hG.old _ (lt_in xa) (fun hh => SA.own.ne xa (by decide) _ hh rfl)).trans xa
      obtain ⟨a9, c9, rfl, -, -⟩ := S9.own.shape
      have X9 := Lib.hid xl9
      have HS9 := Lib.hid (S9.cast (more' := ([] ++ encI x.les ++ x.tail.enc ++ leB 4 x.log.length) ++ (x.log.take (k + 1)).flatMap EntryT.enc) (by rw [HFT.out, List.append_assoc]))
      clear xl9 S9 hG
      go_wp2
      exact ⟨⟨k + 1, L9, g9, by omega, by simp, HS9.out, X9.out⟩, by simp [intOf]; omega⟩
    · obtain rfl : k = x.log.length := by omega
      have S4 : Out w wr _ out g (([] ++ encI x.les ++ x.tail.enc ++ leB 4 x.log.length) ++ x.log.flatMap EntryT.enc) L gL := SL.cast (by rw [List.take_length])
      obtain ⟨a4, c4, rfl, -, -⟩ := S4.own.shape
      have x4 := xl
      rename World => w4
      clear SL xl
      have z4 : w4.cell? ⟨w.heap.size, 4, none⟩ = some (Value.slice a_v_lasts x.lasts.length c_v_lasts) := cell_in x4
      have lx := lt_in x4
      go_wp2_with fail
      clear z4 lx
      refine (countRef_c S4.own x.lasts.length (by have := S4.len; simp only [List.length_append, List.length_nil, encI_length, bB_length, leB_length, encT_length, encBy_length] at this hm; omega)).mono ?_
      rintro e w5 ⟨v5, rfl, hG5⟩
      obtain ⟨L5, g5, S5⟩ := S4.then hG5
      obtain ⟨a5, c5, rfl, -, -⟩ := S5.own.shape
      have x5 : w5.heap[w.heap.size]? = some (Obj.cells #[Value.int IntKind.i64 x.les, Value.int IntKind.i64 x.tail.epoch, Value.int IntKind.i64 x.tail.n, Value.slice a_v_log x.log.length c_v_log, Value.slice a_v_lasts x.lasts.length c_v_lasts, Value.slice a_v_items x.items.length c_v_items] 37) := (hG5.old _ (lt_in x4) (fun hh => S4.own.ne x4 (by decide) _ hh rfl)).trans x4
      have z4 : w5.cell? ⟨w.heap.size, 4, none⟩ = some (Value.slice a_v_lasts x.lasts.length c_v_lasts) := cell_in x5
      have lx := lt_in x5
      go_wp2
      clear z4 lx
      go_loopw [43, 0] (fun i o w' => ∃ (k : Nat) (L : List UInt8) (gL : Option Nat), k ≤ x.lasts.length ∧ i = .int .i64 k ∧ Out w w' o out g (([] ++ encI x.les ++ x.tail.enc ++ leB 4 x.log.length ++ x.log.flatMap EntryT.enc ++ leB 4 x.lasts.length) ++ (x.lasts.take k).flatMap LastT.enc) L gL ∧ w'.heap[w.heap.size]? = some (Obj.cells #[Value.int IntKind.i64 x.les, Value.int IntKind.i64 x.tail.epoch, Value.int IntKind.i64 x.tail.n, Value.slice a_v_log x.log.length c_v_log, Value.slice a_v_lasts x.lasts.length c_v_lasts, Value.slice a_v_items x.items.length c_v_items] 37)) (fun i _ _ => x.lasts.length - (intOf i).toNat)
      case atStart => exact ⟨0, L5, g5, by omega, rfl, S5.cast (by simp), x5⟩
      case round =>
        obtain ⟨k, L, gL, hk, rfl, SL, xl⟩ := hrel
        by_cases hk2 : k < x.lasts.length
        · have hki : (k : Int) < (x.lasts.length : Int) := by omega
          have hnl : x.lasts.length ≤ 9223372036854775807 := l1.small
          have hd := SL.data hS
          obtain ⟨b, off, cs, rfl, hb, hcl, hcell, hr⟩ := (l1.heap (fun _ _ h => LastT.Is.heap h) (fun _ h => h) hd).at hk2
          have hfl := flatMap_le LastT.enc x.lasts (k + 1)
          have hft := flatMap_take LastT.enc x.lasts k hk2
          rw [hft, List.length_append] at hfl
          obtain ⟨e, he⟩ : ∃ e, e = x.lasts[k] := ⟨_, rfl⟩
          rw [← he] at hr hft hfl
          have HFT := Lib.hid hft
          clear hft he hcl
          obtain ⟨aL, cL, rfl, -, -⟩ := SL.own.shape
          have hr0 := hr
          obtain ⟨rfl, j0, j1, j2, j3, j4⟩ := hr
          have y0 : wr.cell? ⟨b, off + k * 5, none⟩ = some (Value.int IntKind.i64 e.client) := hcell 0 (by omega)
          have y1 : wr.cell? ⟨b, off + k * 5 + 1, none⟩ = some (Value.int IntKind.i64 e.number) := hcell 1 (by omega)
          have y2 : wr.cell? ⟨b, off + k * 5 + 2, none⟩ = some (Value.int IntKind.i64 e.errno) := hcell 2 (by omega)
          have y3 : wr.cell? ⟨b, off + k * 5 + 3, none⟩ = some (Value.int IntKind.i64 e.version.epoch) := hcell 3 (by omega)
          have y4 : wr.cell? ⟨b, off + k * 5 + 4, none⟩ = some (Value.int IntKind.i64 e.version.n) := hcell 4 (by omega)
          go_wp2_with fail
          have SA := SL.alloc (Obj.cells #[Value.int IntKind.i64 e.client, Value.int IntKind.i64 e.number, Value.int IntKind.i64 e.errno, Value.int IntKind.i64 e.version.epoch, Value.int IntKind.i64 e.version.n] 236)
          have xa : (wr.alloc (Obj.cells #[Value.int IntKind.i64 e.client, Value.int IntKind.i64 e.number, Value.int IntKind.i64 e.errno, Value.int IntKind.i64 e.version.epoch, Value.int IntKind.i64 e.version.n] 236)).heap[w.heap.size]? = _ := (Below.heap_alloc _ _ _ (lt_in xl)).trans xl
          generalize wr.alloc (Obj.cells #[Value.int IntKind.i64 e.client, Value.int IntKind.i64 e.number, Value.int IntKind.i64 e.errno, Value.int IntKind.i64 e.version.epoch, Value.int IntKind.i64 e.version.n] 236) = wa at SA xa ⊢
          refine (putLast_c SA.own e ⟨j0, j1, j2, j3, j4⟩ (by have := SL.len; simp only [List.length_append, List.length_nil, encI_length, bB_length, leB_length, encT_length, encBy_length] at this hm hfl; omega)).mono ?_
          rintro _ w9 ⟨v9, rfl, hG⟩
          obtain ⟨L9, g9, S9⟩ := SA.then hG
          have xl9 : w9.heap[w.heap.size]? = _ := (hG.old _ (lt_in xa) (fun hh => SA.own.ne xa (by decide) _ hh rfl)).trans xa
          obtain ⟨a9, c9, rfl, -, -⟩ := S9.own.shape
          have X9 := Lib.hid xl9
          have HS9 := Lib.hid (S9.cast (more' := ([] ++ encI x.les ++ x.tail.enc ++ leB 4 x.log.length ++ x.log.flatMap EntryT.enc ++ leB 4 x.lasts.length) ++ (x.lasts.take (k + 1)).flatMap LastT.enc) (by rw [HFT.out, List.append_assoc]))
          clear xl9 S9 hG
          go_wp2
          exact ⟨⟨k + 1, L9, g9, by omega, by simp, HS9.out, X9.out⟩, by simp [intOf]; omega⟩
        · obtain rfl : k = x.lasts.length := by omega
          have S6 : Out w wr _ out g (([] ++ encI x.les ++ x.tail.enc ++ leB 4 x.log.length ++ x.log.flatMap EntryT.enc ++ leB 4 x.lasts.length) ++ x.lasts.flatMap LastT.enc) L gL := SL.cast (by rw [List.take_length])
          obtain ⟨a6, c6, rfl, -, -⟩ := S6.own.shape
          have x6 := xl
          rename World => w6
          clear SL xl
          have z5 : w6.cell? ⟨w.heap.size, 5, none⟩ = some (Value.slice a_v_items x.items.length c_v_items) := cell_in x6
          have lx := lt_in x6
          go_wp2_with fail
          clear z5 lx
          refine (countRef_c S6.own x.items.length (by have := S6.len; simp only [List.length_append, List.length_nil, encI_length, bB_length, leB_length, encT_length, encBy_length] at this hm; omega)).mono ?_
          rintro e w7 ⟨v7, rfl, hG7⟩
          obtain ⟨L7, g7, S7⟩ := S6.then hG7
          obtain ⟨a7, c7, rfl, -, -⟩ := S7.own.shape
          have x7 : w7.heap[w.heap.size]? = some (Obj.cells #[Value.int IntKind.i64 x.les, Value.int IntKind.i64 x.tail.epoch, Value.int IntKind.i64 x.tail.n, Value.slice a_v_log x.log.length c_v_log, Value.slice a_v_lasts x.lasts.length c_v_lasts, Value.slice a_v_items x.items.length c_v_items] 37) := (hG7.old _ (lt_in x6) (fun hh => S6.own.ne x6 (by decide) _ hh rfl)).trans x6
          have z5 : w7.cell? ⟨w.heap.size, 5, none⟩ = some (Value.slice a_v_items x.items.length c_v_items) := cell_in x7
          have lx := lt_in x7
          go_wp2
          clear z5 lx
          go_loopw [59, 0] (fun i o w' => ∃ (k : Nat) (L : List UInt8) (gL : Option Nat), k ≤ x.items.length ∧ i = .int .i64 k ∧ Out w w' o out g (([] ++ encI x.les ++ x.tail.enc ++ leB 4 x.log.length ++ x.log.flatMap EntryT.enc ++ leB 4 x.lasts.length ++ x.lasts.flatMap LastT.enc ++ leB 4 x.items.length) ++ (x.items.take k).flatMap ItemT.enc) L gL ∧ w'.heap[w.heap.size]? = some (Obj.cells #[Value.int IntKind.i64 x.les, Value.int IntKind.i64 x.tail.epoch, Value.int IntKind.i64 x.tail.n, Value.slice a_v_log x.log.length c_v_log, Value.slice a_v_lasts x.lasts.length c_v_lasts, Value.slice a_v_items x.items.length c_v_items] 37)) (fun i _ _ => x.items.length - (intOf i).toNat)
          case atStart => exact ⟨0, L7, g7, by omega, rfl, S7.cast (by simp), x7⟩
          case round =>
            obtain ⟨k, L, gL, hk, rfl, SL, xl⟩ := hrel
            by_cases hk2 : k < x.items.length
            · have hki : (k : Int) < (x.items.length : Int) := by omega
              have hnl : x.items.length ≤ 9223372036854775807 := l2.small
              have hd := SL.data hS
              obtain ⟨b, off, cs, rfl, hb, hcl, hcell, hr⟩ := (l2.heap (fun _ _ h => ItemT.Is.heap h) (fun _ h => h) hd).at hk2
              have hfl := flatMap_le ItemT.enc x.items (k + 1)
              have hft := flatMap_take ItemT.enc x.items k hk2
              rw [hft, List.length_append] at hfl
              obtain ⟨e, he⟩ : ∃ e, e = x.items[k] := ⟨_, rfl⟩
              rw [← he] at hr hft hfl
              have HFT := Lib.hid hft
              clear hft he hcl
              obtain ⟨aL, cL, rfl, -, -⟩ := SL.own.shape
              have hr0 := hr
              obtain ⟨rfl, j0, j1, j2⟩ := hr
              have y0 : wr.cell? ⟨b, off + k * 4, none⟩ = some (Value.string e.name) := hcell 0 (by omega)
              have y1 : wr.cell? ⟨b, off + k * 4 + 1, none⟩ = some (Value.int IntKind.i64 e.version.epoch) := hcell 1 (by omega)
              have y2 : wr.cell? ⟨b, off + k * 4 + 2, none⟩ = some (Value.int IntKind.i64 e.version.n) := hcell 2 (by omega)
              have y3 : wr.cell? ⟨b, off + k * 4 + 3, none⟩ = some (Value.int IntKind.u32 (e.crc : Nat)) := hcell 3 (by omega)
              go_wp2_with fail
              have SA := SL.alloc (Obj.cells #[Value.string e.name, Value.int IntKind.i64 e.version.epoch, Value.int IntKind.i64 e.version.n, Value.int IntKind.u32 (e.crc : Nat)] 175)
              have xa : (wr.alloc (Obj.cells #[Value.string e.name, Value.int IntKind.i64 e.version.epoch, Value.int IntKind.i64 e.version.n, Value.int IntKind.u32 (e.crc : Nat)] 175)).heap[w.heap.size]? = _ := (Below.heap_alloc _ _ _ (lt_in xl)).trans xl
              generalize wr.alloc (Obj.cells #[Value.string e.name, Value.int IntKind.i64 e.version.epoch, Value.int IntKind.i64 e.version.n, Value.int IntKind.u32 (e.crc : Nat)] 175) = wa at SA xa ⊢
              refine (putItem_c SA.own e ⟨j0, j1, j2⟩ (by have := SL.len; simp only [List.length_append, List.length_nil, encI_length, bB_length, leB_length, encT_length, encBy_length] at this hm hfl; omega)).mono ?_
              rintro _ w9 ⟨v9, rfl, hG⟩
              obtain ⟨L9, g9, S9⟩ := SA.then hG
              have xl9 : w9.heap[w.heap.size]? = _ := (hG.old _ (lt_in xa) (fun hh => SA.own.ne xa (by decide) _ hh rfl)).trans xa
              obtain ⟨a9, c9, rfl, -, -⟩ := S9.own.shape
              have X9 := Lib.hid xl9
              have HS9 := Lib.hid (S9.cast (more' := ([] ++ encI x.les ++ x.tail.enc ++ leB 4 x.log.length ++ x.log.flatMap EntryT.enc ++ leB 4 x.lasts.length ++ x.lasts.flatMap LastT.enc ++ leB 4 x.items.length) ++ (x.items.take (k + 1)).flatMap ItemT.enc) (by rw [HFT.out, List.append_assoc]))
              clear xl9 S9 hG
              go_wp2
              exact ⟨⟨k + 1, L9, g9, by omega, by simp, HS9.out, X9.out⟩, by simp [intOf]; omega⟩
            · obtain rfl : k = x.items.length := by omega
              have S8 : Out w wr _ out g (([] ++ encI x.les ++ x.tail.enc ++ leB 4 x.log.length ++ x.log.flatMap EntryT.enc ++ leB 4 x.lasts.length ++ x.lasts.flatMap LastT.enc ++ leB 4 x.items.length) ++ x.items.flatMap ItemT.enc) L gL := SL.cast (by rw [List.take_length])
              obtain ⟨a8, c8, rfl, -, -⟩ := S8.own.shape
              have x8 := xl
              rename World => w8
              clear SL xl
              go_wp2
              go_ret
              exact ⟨_, rfl, S8.done⟩

structure StepT where
  kind : Int
  pg : PgT
  name : ByteArray
  pos : Int
  n : Int
  key : ByteArray
  data : List UInt8

def StepT.Is (w : World) (S : Nat → Prop) (cs : List Value) (x : StepT) : Prop := ∃ v_data : Value, cs = [Value.int IntKind.i64 x.kind, Value.int IntKind.i64 x.pg.pool, Value.int IntKind.i64 x.pg.seed, Value.string x.name, Value.int IntKind.i64 x.pos, Value.int IntKind.i64 x.n, Value.string x.key, v_data] ∧ in64 x.kind ∧ in64 x.pg.pool ∧ in64 x.pg.seed ∧ in64 x.pos ∧ in64 x.n ∧ ListIs 1 byteIs w S v_data x.data
def StepT.enc (x : StepT) : List UInt8 := [] ++ encI x.kind ++ x.pg.enc ++ encT x.name ++ encI x.pos ++ encI x.n ++ encT x.key ++ encBy x.data
theorem StepT.Is.heap {w w' : World} {S S' : Nat → Prop} {cs : List Value} {x : StepT} (h : StepT.Is w S cs x) (hS : ∀ k, S k → S' k) (hk : ∀ k, S k → w'.heap[k]? = w.heap[k]?) : StepT.Is w' S' cs x := by
  obtain ⟨v_data, rfl, i0, i1, i2, i3, i4, l0⟩ := h
  exact ⟨v_data, rfl, i0, i1, i2, i3, i4, l0.heap (fun _ _ h => byteIs_stable _ _ _ _ _ _ h hS hk) hS hk⟩

set_option maxRecDepth 100000 in
set_option maxHeartbeats 1600000 in
theorem putStep_c {w : World} {v : Value} {out : List UInt8} {g : Option Nat} (h : Own w 5 1 v out.length (out.map bv) g) {S : Nat → Prop} (hS : ∀ k, S k → k < w.heap.size ∧ g ≠ some k) (x : StepT) {cs : List Value} (hx : StepT.Is w S cs x) (hm : out.length + x.enc.length ≤ 90000000000000) :
    Calls Tryz.prog 135 #[v, .agg cs.toArray] w fun e w' => ∃ v', e = .returned v' ∧ Grew w w' v' out g x.enc := by
  obtain ⟨v_data, rfl, i0, i1, i2, i3, i4, l0⟩ := hx
  obtain ⟨a_v_data, c_v_data, rfl, -⟩ := l0.shape
  simp only [StepT.enc] at hm ⊢
  obtain ⟨a0, c0, rfl, -, -⟩ := h.shape
  go_enter Tryz.func135, Tryz.ntmps135
  go_wp2_with fail
  have x0 : (w.alloc (Obj.cells #[Value.int IntKind.i64 x.kind, Value.int IntKind.i64 x.pg.pool, Value.int IntKind.i64 x.pg.seed, Value.string x.name, Value.int IntKind.i64 x.pos, Value.int IntKind.i64 x.n, Value.string x.key, Value.slice a_v_data x.data.length c_v_data] 246)).heap[w.heap.size]? = some (Obj.cells #[Value.int IntKind.i64 x.kind, Value.int IntKind.i64 x.pg.pool, Value.int IntKind.i64 x.pg.seed, Value.string x.name, Value.int IntKind.i64 x.pos, Value.int IntKind.i64 x.n, Value.string x.key, Value.slice a_v_data x.data.length c_v_data] 246) := heap_alloc_new' _ _
  have S0 := (Out.start h).alloc (Obj.cells #[Value.int IntKind.i64 x.kind, Value.int IntKind.i64 x.pg.pool, Value.int IntKind.i64 x.pg.seed, Value.string x.name, Value.int IntKind.i64 x.pos, Value.int IntKind.i64 x.n, Value.string x.key, Value.slice a_v_data x.data.length c_v_data] 246)
  generalize w.alloc (Obj.cells #[Value.int IntKind.i64 x.kind, Value.int IntKind.i64 x.pg.pool, Value.int IntKind.i64 x.pg.seed, Value.string x.name, Value.int IntKind.i64 x.pos, Value.int IntKind.i64 x.n, Value.string x.key, Value.slice a_v_data x.data.length c_v_data] 246) = w0 at x0 S0 ⊢
  refine (int_c S0.own x.kind (by have := S0.len; simp only [List.length_append, List.length_nil, encI_length, bB_length, leB_length, encT_length, encBy_length] at this hm; omega)).mono ?_
  rintro e w1 ⟨v1, rfl, hG1⟩
  obtain ⟨L1, g1, S1⟩ := S0.then hG1
  obtain ⟨a1, c1, rfl, -, -⟩ := S1.own.shape
  have x1 : w1.heap[w.heap.size]? = some (Obj.cells #[Value.int IntKind.i64 x.kind, Value.int IntKind.i64 x.pg.pool, Value.int IntKind.i64 x.pg.seed, Value.string x.name, Value.int IntKind.i64 x.pos, Value.int IntKind.i64 x.n, Value.string x.key, Value.slice a_v_data x.data.length c_v_data] 246) := (hG1.old _ (lt_in x0) (fun hh => S0.own.ne x0 (by decide) _ hh rfl)).trans x0
  have z1 : w1.cell? ⟨w.heap.size, 1, none⟩ = some (Value.int IntKind.i64 x.pg.pool) := cell_in x1
  have z2 : w1.cell? ⟨w.heap.size, 2, none⟩ = some (Value.int IntKind.i64 x.pg.seed) := cell_in x1
  have lx := lt_in x1
  go_wp2_with fail
  clear z1 z2 lx
  refine (putPg_c S1.own x.pg ⟨i1, i2⟩ (by have := S1.len; simp only [List.length_append, List.length_nil, encI_length, bB_length, leB_length, encT_length, encBy_length] at this hm; simp only [PgT.enc, List.length_append, List.length_nil, encI_length, bB_length, leB_length, encT_length, encBy_length] at this hm ⊢; omega)).mono ?_
  rintro e w2 ⟨v2, rfl, hG2⟩
  obtain ⟨L2, g2, S2⟩ := S1.then hG2
  obtain ⟨a2, c2, rfl, -, -⟩ := S2.own.shape
  have x2 : w2.heap[w.heap.size]? = some (Obj.cells #[Value.int IntKind.i64 x.kind, Value.int IntKind.i64 x.pg.pool, Value.int IntKind.i64 x.pg.seed, Value.string x.name, Value.int IntKind.i64 x.pos, Value.int IntKind.i64 x.n, Value.string x.key, Value.slice a_v_data x.data.length c_v_data] 246) := (hG2.old _ (lt_in x1) (fun hh => S1.own.ne x1 (by decide) _ hh rfl)).trans x1
  have z3 : w2.cell? ⟨w.heap.size, 3, none⟩ = some (Value.string x.name) := cell_in x2
  have lx := lt_in x2
  have hcv2 := Go.Lib.run_convert_string_bytes (P := Tryz.prog) w2 9 41 5 x.name Tryz.underlying9 Tryz.underlying41 Tryz.underlying5
  have hKB2 := bytesWorld_kept (fun _ => False) w2 5 x.name
  have hRB2 := bytesWorld_reads w2 5 x.name (by unfold maxLen; simp only [List.length_append, List.length_nil, encI_length, bB_length, leB_length, encT_length, encBy_length] at hm; omega)
  generalize Go.Lib.bytesWorld w2 5 x.name = wb2 at hcv2 hKB2 hRB2
  obtain ⟨cap2, hcap2⟩ : ∃ cap, cap = grownCap w2 x.name.size 0 5 := ⟨_, rfl⟩
  rw [← hcap2] at hcv2 hRB2
  clear hcap2

  go_wp2_with fail
  have T2 : Out w wb2 _ out g _ _ _ := ⟨S2.own.kept hKB2 (fun _ _ h => h), S2.eq, S2.kept.trans (hKB2.mono (fun _ _ h => h.elim)), S2.new⟩
  have t2 := (hKB2.block _ (lt_in x2) (fun h => h)).trans x2
  have n2 : ∀ k, some w2.heap.size = some k → (g2) ≠ some k := fun k hk hg => by
    cases hk
    exact absurd (S2.own.lt _ hg) (by omega)
  have len2 : x.name.data.toList.length = x.name.size := by simp
  have R2 : Reads wb2 1 _ x.name.data.toList.length _ _ := hRB2
  rw [len2] at hRB2
  clear hcv2
  clear z3 lx
  refine (bytesRef_c (bs := x.name.data.toList) T2.own (by rw [len2]; exact hRB2) n2 (by rw [len2]; have := S2.len; simp only [List.length_append, List.length_nil, encI_length, bB_length, leB_length, encT_length, encBy_length] at this hm; omega)).mono ?_
  rw [len2]
  rintro e w3 ⟨v3, rfl, hG3⟩
  obtain ⟨L3, g3, S3⟩ := T2.then hG3
  obtain ⟨a3, c3, rfl, -, -⟩ := S3.own.shape
  have x3 : w3.heap[w.heap.size]? = some (Obj.cells #[Value.int IntKind.i64 x.kind, Value.int IntKind.i64 x.pg.pool, Value.int IntKind.i64 x.pg.seed, Value.string x.name, Value.int IntKind.i64 x.pos, Value.int IntKind.i64 x.n, Value.string x.key, Value.slice a_v_data x.data.length c_v_data] 246) := (hG3.old _ (lt_in t2) (fun hh => T2.own.ne t2 (by decide) _ hh rfl)).trans t2
  have z4 : w3.cell? ⟨w.heap.size, 4, none⟩ = some (Value.int IntKind.i64 x.pos) := cell_in x3
  have lx := lt_in x3
  go_wp2_with fail
  clear z4 lx
  refine (int_c S3.own x.pos (by have := S3.len; simp only [List.length_append, List.length_nil, encI_length, bB_length, leB_length, encT_length, encBy_length] at this hm; omega)).mono ?_
  rintro e w4 ⟨v4, rfl, hG4⟩
  obtain ⟨L4, g4, S4⟩ := S3.then hG4
  obtain ⟨a4, c4, rfl, -, -⟩ := S4.own.shape
  have x4 : w4.heap[w.heap.size]? = some (Obj.cells #[Value.int IntKind.i64 x.kind, Value.int IntKind.i64 x.pg.pool, Value.int IntKind.i64 x.pg.seed, Value.string x.name, Value.int IntKind.i64 x.pos, Value.int IntKind.i64 x.n, Value.string x.key, Value.slice a_v_data x.data.length c_v_data] 246) := (hG4.old _ (lt_in x3) (fun hh => S3.own.ne x3 (by decide) _ hh rfl)).trans x3
  have z5 : w4.cell? ⟨w.heap.size, 5, none⟩ = some (Value.int IntKind.i64 x.n) := cell_in x4
  have lx := lt_in x4
  go_wp2_with fail
  clear z5 lx
  refine (int_c S4.own x.n (by have := S4.len; simp only [List.length_append, List.length_nil, encI_length, bB_length, leB_length, encT_length, encBy_length] at this hm; omega)).mono ?_
  rintro e w5 ⟨v5, rfl, hG5⟩
  obtain ⟨L5, g5, S5⟩ := S4.then hG5
  obtain ⟨a5, c5, rfl, -, -⟩ := S5.own.shape
  have x5 : w5.heap[w.heap.size]? = some (Obj.cells #[Value.int IntKind.i64 x.kind, Value.int IntKind.i64 x.pg.pool, Value.int IntKind.i64 x.pg.seed, Value.string x.name, Value.int IntKind.i64 x.pos, Value.int IntKind.i64 x.n, Value.string x.key, Value.slice a_v_data x.data.length c_v_data] 246) := (hG5.old _ (lt_in x4) (fun hh => S4.own.ne x4 (by decide) _ hh rfl)).trans x4
  have z6 : w5.cell? ⟨w.heap.size, 6, none⟩ = some (Value.string x.key) := cell_in x5
  have lx := lt_in x5
  have hcv5 := Go.Lib.run_convert_string_bytes (P := Tryz.prog) w5 9 41 5 x.key Tryz.underlying9 Tryz.underlying41 Tryz.underlying5
  have hKB5 := bytesWorld_kept (fun _ => False) w5 5 x.key
  have hRB5 := bytesWorld_reads w5 5 x.key (by unfold maxLen; simp only [List.length_append, List.length_nil, encI_length, bB_length, leB_length, encT_length, encBy_length] at hm; omega)
  generalize Go.Lib.bytesWorld w5 5 x.key = wb5 at hcv5 hKB5 hRB5
  obtain ⟨cap5, hcap5⟩ : ∃ cap, cap = grownCap w5 x.key.size 0 5 := ⟨_, rfl⟩
  rw [← hcap5] at hcv5 hRB5
  clear hcap5

  go_wp2_with fail
  have T5 : Out w wb5 _ out g _ _ _ := ⟨S5.own.kept hKB5 (fun _ _ h => h), S5.eq, S5.kept.trans (hKB5.mono (fun _ _ h => h.elim)), S5.new⟩
  have t5 := (hKB5.block _ (lt_in x5) (fun h => h)).trans x5
  have n5 : ∀ k, some w5.heap.size = some k → (g5) ≠ some k := fun k hk hg => by
    cases hk
    exact absurd (S5.own.lt _ hg) (by omega)
  have len5 : x.key.data.toList.length = x.key.size := by simp
  have R5 : Reads wb5 1 _ x.key.data.toList.length _ _ := hRB5
  rw [len5] at hRB5
  clear hcv5
  clear z6 lx
  refine (bytesRef_c (bs := x.key.data.toList) T5.own (by rw [len5]; exact hRB5) n5 (by rw [len5]; have := S5.len; simp only [List.length_append, List.length_nil, encI_length, bB_length, leB_length, encT_length, encBy_length] at this hm; omega)).mono ?_
  rw [len5]
  rintro e w6 ⟨v6, rfl, hG6⟩
  obtain ⟨L6, g6, S6⟩ := T5.then hG6
  obtain ⟨a6, c6, rfl, -, -⟩ := S6.own.shape
  have x6 : w6.heap[w.heap.size]? = some (Obj.cells #[Value.int IntKind.i64 x.kind, Value.int IntKind.i64 x.pg.pool, Value.int IntKind.i64 x.pg.seed, Value.string x.name, Value.int IntKind.i64 x.pos, Value.int IntKind.i64 x.n, Value.string x.key, Value.slice a_v_data x.data.length c_v_data] 246) := (hG6.old _ (lt_in t5) (fun hh => T5.own.ne t5 (by decide) _ hh rfl)).trans t5
  have z7 : w6.cell? ⟨w.heap.size, 7, none⟩ = some (Value.slice a_v_data x.data.length c_v_data) := cell_in x6
  have lx := lt_in x6
  go_wp2_with fail
  clear z7 lx
  have hd6 := S6.data hS
  obtain ⟨gb6, rb6, hb6⟩ := (l0.heap (fun _ _ h => byteIs_stable _ _ _ _ _ _ h (fun _ h => h) hd6) (fun _ h => h) hd6).reads
  refine (bytesRef_c S6.own rb6 (fun k hk hh => by have hk' := hS k (hb6 k hk); rcases S6.new k hh with h' | h'; exact hk'.2 h'; exact absurd hk'.1 (by omega)) (by have := S6.len; simp only [List.length_append, List.length_nil, encI_length, bB_length, leB_length, encT_length, encBy_length] at this hm; omega)).mono ?_
  rintro e w7 ⟨v7, rfl, hG7⟩
  obtain ⟨L7, g7, S7⟩ := S6.then hG7
  obtain ⟨a7, c7, rfl, -, -⟩ := S7.own.shape
  have x7 : w7.heap[w.heap.size]? = some (Obj.cells #[Value.int IntKind.i64 x.kind, Value.int IntKind.i64 x.pg.pool, Value.int IntKind.i64 x.pg.seed, Value.string x.name, Value.int IntKind.i64 x.pos, Value.int IntKind.i64 x.n, Value.string x.key, Value.slice a_v_data x.data.length c_v_data] 246) := (hG7.old _ (lt_in x6) (fun hh => S6.own.ne x6 (by decide) _ hh rfl)).trans x6
  go_wp2
  go_ret
  exact ⟨_, rfl, S7.done⟩

structure TxT where
  steps : List StepT

def TxT.Is (w : World) (S : Nat → Prop) (cs : List Value) (x : TxT) : Prop := ∃ v_steps : Value, cs = [v_steps] ∧ ListIs 8 StepT.Is w S v_steps x.steps
def TxT.enc (x : TxT) : List UInt8 := [] ++ leB 4 x.steps.length ++ x.steps.flatMap StepT.enc
theorem TxT.Is.heap {w w' : World} {S S' : Nat → Prop} {cs : List Value} {x : TxT} (h : TxT.Is w S cs x) (hS : ∀ k, S k → S' k) (hk : ∀ k, S k → w'.heap[k]? = w.heap[k]?) : TxT.Is w' S' cs x := by
  obtain ⟨v_steps, rfl, l0⟩ := h
  exact ⟨v_steps, rfl, l0.heap (fun _ _ h => StepT.Is.heap h hS hk) hS hk⟩

set_option maxRecDepth 100000 in
set_option maxHeartbeats 1600000 in
theorem putTx_c {w : World} {v : Value} {out : List UInt8} {g : Option Nat} (h : Own w 5 1 v out.length (out.map bv) g) {S : Nat → Prop} (hS : ∀ k, S k → k < w.heap.size ∧ g ≠ some k) (x : TxT) {cs : List Value} (hx : TxT.Is w S cs x) (hm : out.length + x.enc.length ≤ 90000000000000) :
    Calls Tryz.prog 58 #[v, .agg cs.toArray] w fun e w' => ∃ v', e = .returned v' ∧ Grew w w' v' out g x.enc := by
  obtain ⟨v_steps, rfl, l0⟩ := hx
  obtain ⟨a_v_steps, c_v_steps, rfl, -⟩ := l0.shape
  simp only [TxT.enc] at hm ⊢
  obtain ⟨a0, c0, rfl, -, -⟩ := h.shape
  go_enter Tryz.func58, Tryz.ntmps58
  go_wp2_with fail
  have x0 : (w.alloc (Obj.cells #[Value.slice a_v_steps x.steps.length c_v_steps] 83)).heap[w.heap.size]? = some (Obj.cells #[Value.slice a_v_steps x.steps.length c_v_steps] 83) := heap_alloc_new' _ _
  have S0 := (Out.start h).alloc (Obj.cells #[Value.slice a_v_steps x.steps.length c_v_steps] 83)
  generalize w.alloc (Obj.cells #[Value.slice a_v_steps x.steps.length c_v_steps] 83) = w0 at x0 S0 ⊢
  refine (countRef_c S0.own x.steps.length (by have := S0.len; simp only [List.length_append, List.length_nil, encI_length, bB_length, leB_length, encT_length, encBy_length] at this hm; omega)).mono ?_
  rintro e w1 ⟨v1, rfl, hG1⟩
  obtain ⟨L1, g1, S1⟩ := S0.then hG1
  obtain ⟨a1, c1, rfl, -, -⟩ := S1.own.shape
  have x1 : w1.heap[w.heap.size]? = some (Obj.cells #[Value.slice a_v_steps x.steps.length c_v_steps] 83) := (hG1.old _ (lt_in x0) (fun hh => S0.own.ne x0 (by decide) _ hh rfl)).trans x0
  have z0 : w1.cell? ⟨w.heap.size, 0, none⟩ = some (Value.slice a_v_steps x.steps.length c_v_steps) := cell_in x1
  have lx := lt_in x1
  go_wp2
  clear z0 lx
  go_loopw [15, 0] (fun i o w' => ∃ (k : Nat) (L : List UInt8) (gL : Option Nat), k ≤ x.steps.length ∧ i = .int .i64 k ∧ Out w w' o out g (([] ++ leB 4 x.steps.length) ++ (x.steps.take k).flatMap StepT.enc) L gL ∧ w'.heap[w.heap.size]? = some (Obj.cells #[Value.slice a_v_steps x.steps.length c_v_steps] 83)) (fun i _ _ => x.steps.length - (intOf i).toNat)
  case atStart => exact ⟨0, L1, g1, by omega, rfl, S1.cast (by simp), x1⟩
  case round =>
    obtain ⟨k, L, gL, hk, rfl, SL, xl⟩ := hrel
    by_cases hk2 : k < x.steps.length
    · have hki : (k : Int) < (x.steps.length : Int) := by omega
      have hnl : x.steps.length ≤ 9223372036854775807 := l0.small
      have hd := SL.data hS
      obtain ⟨b, off, cs, rfl, hb, hcl, hcell, hr⟩ := (l0.heap (fun _ _ h => StepT.Is.heap h (fun _ h => h) hd) (fun _ h => h) hd).at hk2
      have hfl := flatMap_le StepT.enc x.steps (k + 1)
      have hft := flatMap_take StepT.enc x.steps k hk2
      rw [hft, List.length_append] at hfl
      obtain ⟨e, he⟩ : ∃ e, e = x.steps[k] := ⟨_, rfl⟩
      rw [← he] at hr hft hfl
      have HFT := Lib.hid hft
      clear hft he hcl
      obtain ⟨aL, cL, rfl, -, -⟩ := SL.own.shape
      have hr0 := hr
      obtain ⟨uv_data, rfl, j0, j1, j2, j3, j4, m0⟩ := hr
      obtain ⟨au0, cu0, rfl, -⟩ := m0.shape
      have y0 : wr.cell? ⟨b, off + k * 8, none⟩ = some (Value.int IntKind.i64 e.kind) := hcell 0 (by omega)
      have y1 : wr.cell? ⟨b, off + k * 8 + 1, none⟩ = some (Value.int IntKind.i64 e.pg.pool) := hcell 1 (by omega)
      have y2 : wr.cell? ⟨b, off + k * 8 + 2, none⟩ = some (Value.int IntKind.i64 e.pg.seed) := hcell 2 (by omega)
      have y3 : wr.cell? ⟨b, off + k * 8 + 3, none⟩ = some (Value.string e.name) := hcell 3 (by omega)
      have y4 : wr.cell? ⟨b, off + k * 8 + 4, none⟩ = some (Value.int IntKind.i64 e.pos) := hcell 4 (by omega)
      have y5 : wr.cell? ⟨b, off + k * 8 + 5, none⟩ = some (Value.int IntKind.i64 e.n) := hcell 5 (by omega)
      have y6 : wr.cell? ⟨b, off + k * 8 + 6, none⟩ = some (Value.string e.key) := hcell 6 (by omega)
      have y7 : wr.cell? ⟨b, off + k * 8 + 7, none⟩ = some (Value.slice au0 e.data.length cu0) := hcell 7 (by omega)
      go_wp2_with fail
      have SA := SL.alloc (Obj.cells #[Value.int IntKind.i64 e.kind, Value.int IntKind.i64 e.pg.pool, Value.int IntKind.i64 e.pg.seed, Value.string e.name, Value.int IntKind.i64 e.pos, Value.int IntKind.i64 e.n, Value.string e.key, Value.slice au0 e.data.length cu0] 246)
      have xa : (wr.alloc (Obj.cells #[Value.int IntKind.i64 e.kind, Value.int IntKind.i64 e.pg.pool, Value.int IntKind.i64 e.pg.seed, Value.string e.name, Value.int IntKind.i64 e.pos, Value.int IntKind.i64 e.n, Value.string e.key, Value.slice au0 e.data.length cu0] 246)).heap[w.heap.size]? = _ := (Below.heap_alloc _ _ _ (lt_in xl)).trans xl
      have hrA : StepT.Is (wr.alloc (Obj.cells #[Value.int IntKind.i64 e.kind, Value.int IntKind.i64 e.pg.pool, Value.int IntKind.i64 e.pg.seed, Value.string e.name, Value.int IntKind.i64 e.pos, Value.int IntKind.i64 e.n, Value.string e.key, Value.slice au0 e.data.length cu0] 246)) S _ e := hr0.heap (fun _ h => h) (fun k hk => Below.heap_alloc _ _ _ (Nat.lt_of_lt_of_le (hS k hk).1 SL.kept.size))
      generalize wr.alloc (Obj.cells #[Value.int IntKind.i64 e.kind, Value.int IntKind.i64 e.pg.pool, Value.int IntKind.i64 e.pg.seed, Value.string e.name, Value.int IntKind.i64 e.pos, Value.int IntKind.i64 e.n, Value.string e.key, Value.slice au0 e.data.length cu0] 246) = wa at SA xa hrA ⊢
      refine (putStep_c (S := S) SA.own (fun k hk => ⟨Nat.lt_of_lt_of_le (hS k hk).1 SA.kept.size, fun hh => by rcases SA.new k hh with h' | h'; exact (hS k hk).2 h'; exact absurd (hS k hk).1 (by omega)⟩) e hrA (by have := SL.len; simp only [List.length_append, List.length_nil, encI_length, bB_length, leB_length, encT_length, encBy_length] at this hm hfl; omega)).mono ?_
      rintro _ w9 ⟨v9, rfl, hG⟩
      obtain ⟨L9, g9, S9⟩ := SA.then hG
      have xl9 : w9.heap[w.heap.size]? = _ := (hG.old _ (lt_in xa) (fun hh => SA.own.ne xa (by decide) _ hh rfl)).trans xa
      obtain ⟨a9, c9, rfl, -, -⟩ := S9.own.shape
      have X9 := Lib.hid xl9
      have HS9 := Lib.hid (S9.cast (more' := ([] ++ leB 4 x.steps.length) ++ (x.steps.take (k + 1)).flatMap StepT.enc) (by rw [HFT.out, List.append_assoc]))
      clear xl9 S9 hG
      go_wp2
      exact ⟨⟨k + 1, L9, g9, by omega, by simp, HS9.out, X9.out⟩, by simp [intOf]; omega⟩
    · obtain rfl : k = x.steps.length := by omega
      have S2 : Out w wr _ out g (([] ++ leB 4 x.steps.length) ++ x.steps.flatMap StepT.enc) L gL := SL.cast (by rw [List.take_length])
      obtain ⟨a2, c2, rfl, -, -⟩ := S2.own.shape
      have x2 := xl
      rename World => w2
      clear SL xl
      go_wp2
      go_ret
      exact ⟨_, rfl, S2.done⟩

end Go.Proofs.YtanmfldgillodaaGreat
