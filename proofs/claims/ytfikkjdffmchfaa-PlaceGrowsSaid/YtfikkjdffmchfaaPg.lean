/- The contracts of both Pg: where the pool is there. -/
import Derived.Test.YtfikkjdffmchfaaPgNone
import Derived.Test.YtfikkjdffmchfaaNameE
import Derived.Test.YtfikkjdffmchfaaRegionS
set_option linter.unusedSimpArgs false
set_option linter.unusedVariables false
namespace Go.Proofs.Ytfikkjdffmchfaa
open Go.RowKit Go.ChangeShapes Go.WideShapes Go.ChangeAt

theorem nameFrom_ok (N : Int) (t : Trio) (l : List UInt8) : 0 ≤ nameFrom N t l ∧ nameFrom N t l < 4294967296 := by
  rw [nameFrom]
  split
  · exact nameFrom_ok _ _ _
  · exact (mixT_ok _).2.2
termination_by l.length
decreasing_by simp; omega

/-- The name's number as a natural number. -/
def nameU (l : List UInt8) : Nat := (nameN l).toNat
theorem nameU_eq (l : List UInt8) : nameN l = (nameU l : Int) := (Int.toNat_of_nonneg (nameFrom_ok _ _ _).1).symm
theorem nameU_lt (l : List UInt8) : nameU l < 4294967296 := by
  have := nameFrom_ok ((l.length : Int) % 4294967296) trio0 l
  unfold nameU nameN
  omega

theorem eng0_ex : ∃ cs : Array Value, ¬ cs = #[] ∧ ∀ w, Sem.run Try.prog (zeroValue 69) w = .ok (.agg cs) w :=
  ⟨match ((Try.prog.info? 69).bind (fun i => i.zero)) with
  | some (.agg c) => c
  | _ => #[], of_decide_eq_true (by kernel_rfl), fun w => by kernel_rfl⟩

theorem new_c {w : World} : Calls Try.prog 16 #[] w fun e w' => e = .returned (.pointer (some ⟨w.heap.size, 0, none⟩)) ∧ Kept (fun _ => False) w w' := by
  go_enter Try.func16, Try.ntmps16
  obtain ⟨cs, z1, z⟩ := eng0_ex
  go_wp2
  go_ret
  exact ⟨rfl, Kept.alloc _ _ _⟩

set_option maxRecDepth 100000 in
set_option maxHeartbeats 1000000 in
theorem pgRef_none {w : World} {vp : Value} {pl : List PoolT} {g : Option Nat} (hr : Reads w 4 vp pl.length (pl.flatMap PoolT.cells) g) (hm : pl.length ≤ 140737488351232) (ep lf : Int) (vo vb : Value) (ao : Option Addr) (no co : Nat) (ho : vo = .slice ao no co) (ab : Option Addr) (nb cb : Nat) (hb : vb = .slice ab nb cb) (id : Int) (s : ByteArray)
    (hf : (pl.find? (fun q => q.id == id)) = none) :
    Calls Try.prog 7 #[.agg #[.int .i64 ep, vo, vp, vb, .int .i64 lf], .int .i64 id, .string s] w fun e w' => e = .returned (.tuple #[.agg #[.int .i64 0, .int .i64 0], .int .i64 2]) ∧ Kept (fun _ => False) w w' := by
  subst ho hb
  obtain ⟨ap, cp, rfl, hc⟩ := hr.shape
  go_enter Try.func7, Try.ntmps7
  go_wp2_with fail
  obtain ⟨K0, x1, x2⟩ := two_new w (Obj.cells #[Value.int IntKind.i64 ep, Value.slice ao no co, Value.slice ap pl.length cp, Value.slice ab nb cb, Value.int IntKind.i64 lf] 26) (Obj.cells #[Value.int IntKind.i64 0, Value.int IntKind.i64 0] 28)
  generalize (w.alloc (Obj.cells #[Value.int IntKind.i64 ep, Value.slice ao no co, Value.slice ap pl.length cp, Value.slice ab nb cb, Value.int IntKind.i64 lf] 26)).alloc (Obj.cells #[Value.int IntKind.i64 0, Value.int IntKind.i64 0] 28) = w0 at K0 x1 x2 ⊢
  refine (poolRef_c (hr.kept K0 (fun _ _ h => h)) hm _ _ _ _ _ _ _ rfl _ _ _ rfl id PoolT.zero false (by simpa using hf) (fun _ => rfl)).mono ?_
  rintro e w1 ⟨rfl, hk1⟩
  have x3 : w1.heap[w.heap.size + 1]? = _ := (hk1.block _ (lt_in x2) (fun h => h)).trans x2
  have z0 : w1.cell? ⟨w.heap.size + 1, 0, none⟩ = some (.int .i64 0) := cell_in x3
  have z1 : w1.cell? ⟨w.heap.size + 1, 1, none⟩ = some (.int .i64 0) := cell_in x3
  have f0 : w1.frozen? ⟨w.heap.size + 1, 0, none⟩ = false := frozen_in x3
  have f1 : w1.frozen? ⟨w.heap.size + 1, 1, none⟩ = false := frozen_in x3
  have hlt := lt_in x3
  have K1 := K0.trans hk1
  have X3 := Lib.hid x3
  clear x1 x2 x3
  simp only [PoolT.val, PoolT.zero]
  go_wp2_with fail
  have h3 := heap_setCell_same (o := 1) (heap_setCell_same (o := 0) X3.out (.int .i64 0)) (.int .i64 0)
  have h4 : (((w1.setCell ⟨w.heap.size + 1, 0, none⟩ (.int .i64 0)).setCell ⟨w.heap.size + 1, 1, none⟩ (.int .i64 0)).alloc (Obj.cells #[Value.int IntKind.i64 0, Value.int IntKind.i64 0, Value.int IntKind.i64 0, Value.int IntKind.i64 0] 35)).heap[w.heap.size + 1]? = _ := (Below.heap_alloc _ _ _ (lt_in h3)).trans h3
  have K4 : Kept (fun _ => False) w (((w1.setCell ⟨w.heap.size + 1, 0, none⟩ (.int .i64 0)).setCell ⟨w.heap.size + 1, 1, none⟩ (.int .i64 0)).alloc (Obj.cells #[Value.int IntKind.i64 0, Value.int IntKind.i64 0, Value.int IntKind.i64 0, Value.int IntKind.i64 0] 35)) := ((K1.st _ (.inr (by simp))).st _ (.inr (by simp))).al _
  generalize ((w1.setCell ⟨w.heap.size + 1, 0, none⟩ (.int .i64 0)).setCell ⟨w.heap.size + 1, 1, none⟩ (.int .i64 0)).alloc (Obj.cells #[Value.int IntKind.i64 0, Value.int IntKind.i64 0, Value.int IntKind.i64 0, Value.int IntKind.i64 0] 35) = w4 at h4 K4 ⊢
  have e0 : w4.cell? ⟨w.heap.size + 1, 0, none⟩ = some (.int .i64 0) := cell_in h4
  have e1 : w4.cell? ⟨w.heap.size + 1, 1, none⟩ = some (.int .i64 0) := cell_in h4
  exact bodyPost_ret (v := .tuple #[.agg #[.int .i64 0, .int .i64 0], .int .i64 2]) (by simp [results, Try.results7, go_sem, e0, e1]) rfl ⟨rfl, K4⟩

set_option maxRecDepth 100000 in
set_option maxHeartbeats 1000000 in
theorem pg_bad {w : World} {vp : Value} {pl : List PoolT} {g : Option Nat} (hr : Reads w 4 vp pl.length (pl.flatMap PoolT.cells) g) (hm : pl.length ≤ 140737488351232) (ep lf : Int) (vo vb : Value) (ao : Option Addr) (no co : Nat) (ho : vo = .slice ao no co) (ab : Option Addr) (nb cb : Nat) (hb : vb = .slice ab nb cb) (id : Int) (s : ByteArray) (hs : s.size ≤ 140737488351232) (r : PoolT)
    (hf : (pl.find? (fun q => q.id == id)) = some r) (hg : goodB s.data.toList = false) :
    Calls Try.prog 6 #[.agg #[.int .i64 ep, vo, vp, vb, .int .i64 lf], .int .i64 id, .string s] w fun e w' => e = .returned (.tuple #[.agg #[.int .i64 0, .int .i64 0], .int .i64 36]) ∧ Kept (fun _ => False) w w' := by
  subst ho hb
  obtain ⟨ap, cp, rfl, hc⟩ := hr.shape
  go_enter Try.func6, Try.ntmps6
  go_wp2_with fail
  obtain ⟨K0, x1, x2⟩ := two_new w (Obj.cells #[Value.int IntKind.i64 ep, Value.slice ao no co, Value.slice ap pl.length cp, Value.slice ab nb cb, Value.int IntKind.i64 lf] 26) (Obj.cells #[Value.int IntKind.i64 0, Value.int IntKind.i64 0] 28)
  generalize (w.alloc (Obj.cells #[Value.int IntKind.i64 ep, Value.slice ao no co, Value.slice ap pl.length cp, Value.slice ab nb cb, Value.int IntKind.i64 lf] 26)).alloc (Obj.cells #[Value.int IntKind.i64 0, Value.int IntKind.i64 0] 28) = w0 at K0 x1 x2 ⊢
  refine (pool_c (hr.kept K0 (fun _ _ h => h)) hm _ _ _ _ _ _ _ rfl _ _ _ rfl id r true (by simpa using hf) (fun h => by cases h)).mono ?_
  rintro e w1 ⟨rfl, hk1⟩
  have x3 : w1.heap[w.heap.size + 1]? = _ := (hk1.block _ (lt_in x2) (fun h => h)).trans x2
  have z0 : w1.cell? ⟨w.heap.size + 1, 0, none⟩ = some (.int .i64 0) := cell_in x3
  have z1 : w1.cell? ⟨w.heap.size + 1, 1, none⟩ = some (.int .i64 0) := cell_in x3
  have f0 : w1.frozen? ⟨w.heap.size + 1, 0, none⟩ = false := frozen_in x3
  have f1 : w1.frozen? ⟨w.heap.size + 1, 1, none⟩ = false := frozen_in x3
  have hlt := lt_in x3
  have K1 := K0.trans hk1
  have X3 := Lib.hid x3
  clear x1 x2 x3
  simp only [PoolT.val, PoolT.zero]
  go_wp2_with fail
  have X4 : (w1.alloc (Obj.cells #[Value.int IntKind.i64 r.id, Value.int IntKind.i64 r.size, Value.int IntKind.i64 r.min, Value.int IntKind.i64 r.pgs] 35)).heap[w1.heap.size]? = _ := heap_alloc_new' _ _
  have x5 : (w1.alloc (Obj.cells #[Value.int IntKind.i64 r.id, Value.int IntKind.i64 r.size, Value.int IntKind.i64 r.min, Value.int IntKind.i64 r.pgs] 35)).heap[w.heap.size + 1]? = _ := (Below.heap_alloc _ _ _ hlt).trans X3.out
  have K4 := K1.al (Obj.cells #[Value.int IntKind.i64 r.id, Value.int IntKind.i64 r.size, Value.int IntKind.i64 r.min, Value.int IntKind.i64 r.pgs] 35)
  have l4 := lt_in X4
  generalize w1.alloc (Obj.cells #[Value.int IntKind.i64 r.id, Value.int IntKind.i64 r.size, Value.int IntKind.i64 r.min, Value.int IntKind.i64 r.pgs] 35) = w4 at X4 x5 K4 l4 ⊢
  clear z0 z1 f0 f1
  have z0 : w4.cell? ⟨w.heap.size + 1, 0, none⟩ = some (.int .i64 0) := cell_in x5
  have z1 : w4.cell? ⟨w.heap.size + 1, 1, none⟩ = some (.int .i64 0) := cell_in x5
  have f0 : w4.frozen? ⟨w.heap.size + 1, 0, none⟩ = false := frozen_in x5
  have f1 : w4.frozen? ⟨w.heap.size + 1, 1, none⟩ = false := frozen_in x5
  have l5 := lt_in x5
  have X5 := Lib.hid x5
  clear x5
  refine (good_c s _ hs false hg).mono ?_
  rintro e _ ⟨rfl, rfl⟩
  go_wp2_with fail
  have h3 := heap_setCell_same (o := 1) (heap_setCell_same (o := 0) X5.out (.int .i64 0)) (.int .i64 0)
  have K6 := (K4.st (p := ⟨w.heap.size + 1, 0, none⟩) (.int .i64 0) (.inr (by simp))).st (p := ⟨w.heap.size + 1, 1, none⟩) (.int .i64 0) (.inr (by simp))
  have e0 := cell_in (k := 0) h3
  have e1 := cell_in (k := 1) h3
  exact bodyPost_ret (v := .tuple #[.agg #[.int .i64 0, .int .i64 0], .int .i64 36]) (by simp [results, Try.results6, go_sem, e0, e1]) rfl ⟨rfl, K6⟩

set_option maxRecDepth 100000 in
set_option maxHeartbeats 1000000 in
theorem pgRef_bad {w : World} {vp : Value} {pl : List PoolT} {g : Option Nat} (hr : Reads w 4 vp pl.length (pl.flatMap PoolT.cells) g) (hm : pl.length ≤ 140737488351232) (ep lf : Int) (vo vb : Value) (ao : Option Addr) (no co : Nat) (ho : vo = .slice ao no co) (ab : Option Addr) (nb cb : Nat) (hb : vb = .slice ab nb cb) (id : Int) (s : ByteArray) (hs : s.size ≤ 140737488351232) (r : PoolT)
    (hf : (pl.find? (fun q => q.id == id)) = some r) (hg : goodB s.data.toList = false) :
    Calls Try.prog 7 #[.agg #[.int .i64 ep, vo, vp, vb, .int .i64 lf], .int .i64 id, .string s] w fun e w' => e = .returned (.tuple #[.agg #[.int .i64 0, .int .i64 0], .int .i64 36]) ∧ Kept (fun _ => False) w w' := by
  subst ho hb
  obtain ⟨ap, cp, rfl, hc⟩ := hr.shape
  go_enter Try.func7, Try.ntmps7
  go_wp2_with fail
  obtain ⟨K0, x1, x2⟩ := two_new w (Obj.cells #[Value.int IntKind.i64 ep, Value.slice ao no co, Value.slice ap pl.length cp, Value.slice ab nb cb, Value.int IntKind.i64 lf] 26) (Obj.cells #[Value.int IntKind.i64 0, Value.int IntKind.i64 0] 28)
  generalize (w.alloc (Obj.cells #[Value.int IntKind.i64 ep, Value.slice ao no co, Value.slice ap pl.length cp, Value.slice ab nb cb, Value.int IntKind.i64 lf] 26)).alloc (Obj.cells #[Value.int IntKind.i64 0, Value.int IntKind.i64 0] 28) = w0 at K0 x1 x2 ⊢
  refine (poolRef_c (hr.kept K0 (fun _ _ h => h)) hm _ _ _ _ _ _ _ rfl _ _ _ rfl id r true (by simpa using hf) (fun h => by cases h)).mono ?_
  rintro e w1 ⟨rfl, hk1⟩
  have x3 : w1.heap[w.heap.size + 1]? = _ := (hk1.block _ (lt_in x2) (fun h => h)).trans x2
  have z0 : w1.cell? ⟨w.heap.size + 1, 0, none⟩ = some (.int .i64 0) := cell_in x3
  have z1 : w1.cell? ⟨w.heap.size + 1, 1, none⟩ = some (.int .i64 0) := cell_in x3
  have f0 : w1.frozen? ⟨w.heap.size + 1, 0, none⟩ = false := frozen_in x3
  have f1 : w1.frozen? ⟨w.heap.size + 1, 1, none⟩ = false := frozen_in x3
  have hlt := lt_in x3
  have K1 := K0.trans hk1
  have X3 := Lib.hid x3
  clear x1 x2 x3
  simp only [PoolT.val, PoolT.zero]
  go_wp2_with fail
  have X4 : (w1.alloc (Obj.cells #[Value.int IntKind.i64 r.id, Value.int IntKind.i64 r.size, Value.int IntKind.i64 r.min, Value.int IntKind.i64 r.pgs] 35)).heap[w1.heap.size]? = _ := heap_alloc_new' _ _
  have x5 : (w1.alloc (Obj.cells #[Value.int IntKind.i64 r.id, Value.int IntKind.i64 r.size, Value.int IntKind.i64 r.min, Value.int IntKind.i64 r.pgs] 35)).heap[w.heap.size + 1]? = _ := (Below.heap_alloc _ _ _ hlt).trans X3.out
  have K4 := K1.al (Obj.cells #[Value.int IntKind.i64 r.id, Value.int IntKind.i64 r.size, Value.int IntKind.i64 r.min, Value.int IntKind.i64 r.pgs] 35)
  have l4 := lt_in X4
  generalize w1.alloc (Obj.cells #[Value.int IntKind.i64 r.id, Value.int IntKind.i64 r.size, Value.int IntKind.i64 r.min, Value.int IntKind.i64 r.pgs] 35) = w4 at X4 x5 K4 l4 ⊢
  clear z0 z1 f0 f1
  have z0 : w4.cell? ⟨w.heap.size + 1, 0, none⟩ = some (.int .i64 0) := cell_in x5
  have z1 : w4.cell? ⟨w.heap.size + 1, 1, none⟩ = some (.int .i64 0) := cell_in x5
  have f0 : w4.frozen? ⟨w.heap.size + 1, 0, none⟩ = false := frozen_in x5
  have f1 : w4.frozen? ⟨w.heap.size + 1, 1, none⟩ = false := frozen_in x5
  have l5 := lt_in x5
  have X5 := Lib.hid x5
  clear x5
  refine (goodRef_c s _ hs false hg).mono ?_
  rintro e _ ⟨rfl, rfl⟩
  go_wp2_with fail
  have h3 := heap_setCell_same (o := 1) (heap_setCell_same (o := 0) X5.out (.int .i64 0)) (.int .i64 0)
  have K6 := (K4.st (p := ⟨w.heap.size + 1, 0, none⟩) (.int .i64 0) (.inr (by simp))).st (p := ⟨w.heap.size + 1, 1, none⟩) (.int .i64 0) (.inr (by simp))
  have e0 := cell_in (k := 0) h3
  have e1 := cell_in (k := 1) h3
  exact bodyPost_ret (v := .tuple #[.agg #[.int .i64 0, .int .i64 0], .int .i64 36]) (by simp [results, Try.results7, go_sem, e0, e1]) rfl ⟨rfl, K6⟩

set_option maxRecDepth 100000 in
set_option maxHeartbeats 1000000 in
theorem pg_ok {w : World} {vp : Value} {pl : List PoolT} {g : Option Nat} (hr : Reads w 4 vp pl.length (pl.flatMap PoolT.cells) g) (hm : pl.length ≤ 140737488351232) (ep lf : Int) (vo vb : Value) (ao : Option Addr) (no co : Nat) (ho : vo = .slice ao no co) (ab : Option Addr) (nb cb : Nat) (hb : vb = .slice ab nb cb) (id : Int) (s : ByteArray) (hs : s.size ≤ 140737488351232) (r : PoolT) (hp1 : -9223372036854775808 ≤ r.pgs) (hp2 : r.pgs ≤ 9223372036854775807)
    (hf : (pl.find? (fun q => q.id == id)) = some r) (hg : goodB s.data.toList = true) :
    Calls Try.prog 6 #[.agg #[.int .i64 ep, vo, vp, vb, .int .i64 lf], .int .i64 id, .string s] w fun e w' => e = .returned (.tuple #[.agg #[.int .i64 id, .int .i64 (smod (nameU s.data.toList) r.pgs.toNat)], .int .i64 0]) ∧ Kept (fun _ => False) w w' := by
  have hid : r.id = id := by
    have := List.find?_some hf
    simpa using this
  have HID := Lib.hid hid
  clear hid
  subst ho hb
  obtain ⟨ap, cp, rfl, hc⟩ := hr.shape
  go_enter Try.func6, Try.ntmps6
  go_wp2_with fail
  obtain ⟨K0, x1, x2⟩ := two_new w (Obj.cells #[Value.int IntKind.i64 ep, Value.slice ao no co, Value.slice ap pl.length cp, Value.slice ab nb cb, Value.int IntKind.i64 lf] 26) (Obj.cells #[Value.int IntKind.i64 0, Value.int IntKind.i64 0] 28)
  generalize (w.alloc (Obj.cells #[Value.int IntKind.i64 ep, Value.slice ao no co, Value.slice ap pl.length cp, Value.slice ab nb cb, Value.int IntKind.i64 lf] 26)).alloc (Obj.cells #[Value.int IntKind.i64 0, Value.int IntKind.i64 0] 28) = w0 at K0 x1 x2 ⊢
  refine (pool_c (hr.kept K0 (fun _ _ h => h)) hm _ _ _ _ _ _ _ rfl _ _ _ rfl id r true (by simpa using hf) (fun h => by cases h)).mono ?_
  rintro e w1 ⟨rfl, hk1⟩
  have x3 : w1.heap[w.heap.size + 1]? = _ := (hk1.block _ (lt_in x2) (fun h => h)).trans x2
  have z0 : w1.cell? ⟨w.heap.size + 1, 0, none⟩ = some (.int .i64 0) := cell_in x3
  have z1 : w1.cell? ⟨w.heap.size + 1, 1, none⟩ = some (.int .i64 0) := cell_in x3
  have f0 : w1.frozen? ⟨w.heap.size + 1, 0, none⟩ = false := frozen_in x3
  have f1 : w1.frozen? ⟨w.heap.size + 1, 1, none⟩ = false := frozen_in x3
  have hlt := lt_in x3
  have K1 := K0.trans hk1
  have X3 := Lib.hid x3
  clear x1 x2 x3
  simp only [PoolT.val, PoolT.zero]
  go_wp2_with fail
  have X4 : (w1.alloc (Obj.cells #[Value.int IntKind.i64 r.id, Value.int IntKind.i64 r.size, Value.int IntKind.i64 r.min, Value.int IntKind.i64 r.pgs] 35)).heap[w1.heap.size]? = _ := heap_alloc_new' _ _
  have x5 : (w1.alloc (Obj.cells #[Value.int IntKind.i64 r.id, Value.int IntKind.i64 r.size, Value.int IntKind.i64 r.min, Value.int IntKind.i64 r.pgs] 35)).heap[w.heap.size + 1]? = _ := (Below.heap_alloc _ _ _ hlt).trans X3.out
  have K4 := K1.al (Obj.cells #[Value.int IntKind.i64 r.id, Value.int IntKind.i64 r.size, Value.int IntKind.i64 r.min, Value.int IntKind.i64 r.pgs] 35)
  have l4 := lt_in X4
  generalize w1.alloc (Obj.cells #[Value.int IntKind.i64 r.id, Value.int IntKind.i64 r.size, Value.int IntKind.i64 r.min, Value.int IntKind.i64 r.pgs] 35) = w4 at X4 x5 K4 l4 ⊢
  clear z0 z1 f0 f1
  have l5 := lt_in x5
  have X5 := Lib.hid x5
  clear x5
  refine (good_c s _ hs true hg).mono ?_
  rintro e w4 ⟨rfl, rfl⟩
  have y0 : w4.cell? ⟨w1.heap.size, 0, none⟩ = some (.int .i64 r.id) := cell_in X4
  have y3 : w4.cell? ⟨w1.heap.size, 3, none⟩ = some (.int .i64 r.pgs) := cell_in X4
  have hl4 : w1.heap.size < w4.heap.size := l4
  have X4' := Lib.hid X4
  clear X4
  go_wp2
  refine wp_region_ordS (fun w' => w'.heap[w1.heap.size]? = some (Obj.cells #[Value.int IntKind.i64 r.id, Value.int IntKind.i64 r.size, Value.int IntKind.i64 r.min, Value.int IntKind.i64 r.pgs] 35) ∧ Kept (fun _ => False) w w') [] [0, 1, 3, 5, 6] [2, 4, 7, 8, 9, 10] (by kernel_rfl) (by kernel_rfl) (fun _ _ d _ _ h => by cases d <;> exact h) (fun k => ⟨X4'.out, K4.dN k⟩) ?_
  simp only [sel, List.filterMap_cons, List.filterMap_nil, List.getElem?_cons_zero, List.getElem?_cons_succ]
  refine wpQuiet_nil ?_
  refine wpHeld_step (fun K hK => ?_)
  go_simp
  refine ⟨_, fun _ _ _ => rfl, hK _ ?_⟩
  refine wpHeld_step (fun K hK => ?_)
  go_simp
  refine ⟨.int .i64 r.id, fun w' h _ => (by
    have h1 := cell_in (k := 0) h
    have h2 := lt_in h
    simp at h1
    clear h
    go_simp), hK _ ?_⟩
  refine wpHeld_step (fun K hK => ?_)
  go_simp
  refine ⟨_, fun _ _ _ => rfl, hK _ ?_⟩
  refine wpHeld_step (fun K hK => ?_)
  go_simp
  refine ⟨_, fun _ _ _ => rfl, hK _ ?_⟩
  refine wpHeld_step (fun K hK => ?_)
  go_simp
  refine ⟨.int .i64 r.pgs, fun w' h _ => (by
    have h1 := cell_in (k := 3) h
    have h2 := lt_in h
    simp at h1
    clear h
    go_simp), hK _ ?_⟩
  refine wpHeld_nil ?_
  rintro _ ⟨nr, rfl⟩
  have X6 : (w4.drewN nr).heap[w1.heap.size]? = _ := X4'.out
  have X7 : (w4.drewN nr).heap[w.heap.size + 1]? = _ := X5.out
  have K6 : Kept (fun _ => False) w (w4.drewN nr) := K4.dN nr
  generalize w4.drewN nr = w6 at X6 X7 K6 ⊢
  clear y0 y3
  refine wpListS_step (fun K hK => ?_)
  go_simp
  go_wp2_with fail
  refine new_c.mono ?_
  rintro e w7 ⟨rfl, hk7⟩
  have X8 : w7.heap[w1.heap.size]? = _ := (hk7.block _ (lt_in X6) (fun h => h)).trans X6
  have X9 : w7.heap[w.heap.size + 1]? = _ := (hk7.block _ (lt_in X7) (fun h => h)).trans X7
  have K7 := K6.trans hk7
  refine hK _ _ ⟨X8, K7⟩ ?_
  clear X6 X7 hK
  generalize w6.heap.size = hp
  refine wpListS_step (fun K hK => ?_)
  go_simp
  go_wp2_with fail
  refine (name_c _ s _ hs).mono ?_
  rintro e w8 ⟨rfl, hk8⟩
  have Y8 : w8.heap[w1.heap.size]? = _ := (hk8.block _ (lt_in X8) (fun h => h)).trans X8
  have Y9 : w8.heap[w.heap.size + 1]? = _ := (hk8.block _ (lt_in X9) (fun h => h)).trans X9
  have K8 := K7.trans hk8
  refine hK _ _ ⟨Y8, K8⟩ ?_
  clear X8 X9 hK
  rw [nameU_eq]
  refine wpListS_step (fun K hK => ?_)
  go_simp
  go_wp2_with fail
  refine (stable_c (nameU s.data.toList) r.pgs (nameU_lt _) hp1 hp2).mono ?_
  rintro e w8 ⟨rfl, rfl⟩
  refine hK _ _ ⟨Y8, K8⟩ ?_
  clear hK
  refine wpListS_step (fun K hK => ?_)
  go_simp
  refine hK _ _ ⟨Y8, K8⟩ ?_
  clear hK
  have z0 : w8.cell? ⟨w.heap.size + 1, 0, none⟩ = some (.int .i64 0) := cell_in Y9
  have z1 : w8.cell? ⟨w.heap.size + 1, 1, none⟩ = some (.int .i64 0) := cell_in Y9
  have f0 : w8.frozen? ⟨w.heap.size + 1, 0, none⟩ = false := frozen_in Y9
  have f1 : w8.frozen? ⟨w.heap.size + 1, 1, none⟩ = false := frozen_in Y9
  have l9 := lt_in Y9
  have l8 := lt_in Y8
  have H9 := Lib.hid Y9
  have H8 := Lib.hid Y8
  clear Y9 Y8
  refine wpListS_step (fun K hK => ?_)
  go_simp
  have h3 := heap_setCell_same (o := 1) (heap_setCell_same (o := 0) H9.out (.int .i64 r.id)) (.int .i64 (smod (nameU s.data.toList) r.pgs.toNat))
  have h4 : ((w8.setCell ⟨w.heap.size + 1, 0, none⟩ (.int .i64 r.id)).setCell ⟨w.heap.size + 1, 1, none⟩ (.int .i64 (smod (nameU s.data.toList) r.pgs.toNat))).heap[w1.heap.size]? = _ := (Kept.setCell (F := fun b => b = w.heap.size + 1) _ _ _ rfl |>.block _ (by simpa using l8) (fun h => by have h' : w1.heap.size = w.heap.size + 1 := h; omega)).trans ((Kept.setCell (F := fun b => b = w.heap.size + 1) _ _ _ rfl |>.block _ l8 (fun h => by have h' : w1.heap.size = w.heap.size + 1 := h; omega)).trans H8.out)
  have K9 := (K8.st (p := ⟨w.heap.size + 1, 0, none⟩) (.int .i64 r.id) (.inr (by simp))).st (p := ⟨w.heap.size + 1, 1, none⟩) (.int .i64 (smod (nameU s.data.toList) r.pgs.toNat)) (.inr (by simp))
  refine hK _ _ ⟨h4, K9⟩ ?_
  clear hK
  have e0 := cell_in (k := 0) h3
  have e1 := cell_in (k := 1) h3
  clear f0 f1 z0 z1
  generalize (w8.setCell ⟨w.heap.size + 1, 0, none⟩ (.int .i64 r.id)).setCell ⟨w.heap.size + 1, 1, none⟩ (.int .i64 (smod (nameU s.data.toList) r.pgs.toNat)) = w9 at h3 h4 K9 e0 e1 ⊢
  refine wpListS_step (fun K hK => ?_)
  go_simp
  refine hK _ _ ⟨h4, K9⟩ ?_
  clear hK
  refine wpListS_nil ?_
  go_wp2
  exact bodyPost_ret (v := .tuple #[.agg #[.int .i64 id, .int .i64 (smod (nameU s.data.toList) r.pgs.toNat)], .int .i64 0]) (by simp [results, Try.results6, go_sem, e0, e1, HID.out]) rfl ⟨rfl, K9⟩

set_option maxRecDepth 100000 in
set_option maxHeartbeats 1000000 in
theorem pgRef_ok {w : World} {vp : Value} {pl : List PoolT} {g : Option Nat} (hr : Reads w 4 vp pl.length (pl.flatMap PoolT.cells) g) (hm : pl.length ≤ 140737488351232) (ep lf : Int) (vo vb : Value) (ao : Option Addr) (no co : Nat) (ho : vo = .slice ao no co) (ab : Option Addr) (nb cb : Nat) (hb : vb = .slice ab nb cb) (id : Int) (s : ByteArray) (hs : s.size ≤ 140737488351232) (r : PoolT) (hp1 : -9223372036854775808 ≤ r.pgs) (hp2 : r.pgs ≤ 9223372036854775807)
    (hf : (pl.find? (fun q => q.id == id)) = some r) (hg : goodB s.data.toList = true) :
    Calls Try.prog 7 #[.agg #[.int .i64 ep, vo, vp, vb, .int .i64 lf], .int .i64 id, .string s] w fun e w' => e = .returned (.tuple #[.agg #[.int .i64 id, .int .i64 (smod (nameU s.data.toList) r.pgs.toNat)], .int .i64 0]) ∧ Kept (fun _ => False) w w' := by
  have hid : r.id = id := by
    have := List.find?_some hf
    simpa using this
  have HID := Lib.hid hid
  clear hid
  subst ho hb
  obtain ⟨ap, cp, rfl, hc⟩ := hr.shape
  go_enter Try.func7, Try.ntmps7
  go_wp2_with fail
  obtain ⟨K0, x1, x2⟩ := two_new w (Obj.cells #[Value.int IntKind.i64 ep, Value.slice ao no co, Value.slice ap pl.length cp, Value.slice ab nb cb, Value.int IntKind.i64 lf] 26) (Obj.cells #[Value.int IntKind.i64 0, Value.int IntKind.i64 0] 28)
  generalize (w.alloc (Obj.cells #[Value.int IntKind.i64 ep, Value.slice ao no co, Value.slice ap pl.length cp, Value.slice ab nb cb, Value.int IntKind.i64 lf] 26)).alloc (Obj.cells #[Value.int IntKind.i64 0, Value.int IntKind.i64 0] 28) = w0 at K0 x1 x2 ⊢
  refine (poolRef_c (hr.kept K0 (fun _ _ h => h)) hm _ _ _ _ _ _ _ rfl _ _ _ rfl id r true (by simpa using hf) (fun h => by cases h)).mono ?_
  rintro e w1 ⟨rfl, hk1⟩
  have x3 : w1.heap[w.heap.size + 1]? = _ := (hk1.block _ (lt_in x2) (fun h => h)).trans x2
  have z0 : w1.cell? ⟨w.heap.size + 1, 0, none⟩ = some (.int .i64 0) := cell_in x3
  have z1 : w1.cell? ⟨w.heap.size + 1, 1, none⟩ = some (.int .i64 0) := cell_in x3
  have f0 : w1.frozen? ⟨w.heap.size + 1, 0, none⟩ = false := frozen_in x3
  have f1 : w1.frozen? ⟨w.heap.size + 1, 1, none⟩ = false := frozen_in x3
  have hlt := lt_in x3
  have K1 := K0.trans hk1
  have X3 := Lib.hid x3
  clear x1 x2 x3
  simp only [PoolT.val, PoolT.zero]
  go_wp2_with fail
  have X4 : (w1.alloc (Obj.cells #[Value.int IntKind.i64 r.id, Value.int IntKind.i64 r.size, Value.int IntKind.i64 r.min, Value.int IntKind.i64 r.pgs] 35)).heap[w1.heap.size]? = _ := heap_alloc_new' _ _
  have x5 : (w1.alloc (Obj.cells #[Value.int IntKind.i64 r.id, Value.int IntKind.i64 r.size, Value.int IntKind.i64 r.min, Value.int IntKind.i64 r.pgs] 35)).heap[w.heap.size + 1]? = _ := (Below.heap_alloc _ _ _ hlt).trans X3.out
  have K4 := K1.al (Obj.cells #[Value.int IntKind.i64 r.id, Value.int IntKind.i64 r.size, Value.int IntKind.i64 r.min, Value.int IntKind.i64 r.pgs] 35)
  have l4 := lt_in X4
  generalize w1.alloc (Obj.cells #[Value.int IntKind.i64 r.id, Value.int IntKind.i64 r.size, Value.int IntKind.i64 r.min, Value.int IntKind.i64 r.pgs] 35) = w4 at X4 x5 K4 l4 ⊢
  clear z0 z1 f0 f1
  have l5 := lt_in x5
  have X5 := Lib.hid x5
  clear x5
  refine (goodRef_c s _ hs true hg).mono ?_
  rintro e w4 ⟨rfl, rfl⟩
  have y0 : w4.cell? ⟨w1.heap.size, 0, none⟩ = some (.int .i64 r.id) := cell_in X4
  have y3 : w4.cell? ⟨w1.heap.size, 3, none⟩ = some (.int .i64 r.pgs) := cell_in X4
  have hl4 : w1.heap.size < w4.heap.size := l4
  have X4' := Lib.hid X4
  clear X4
  go_wp2
  refine wp_region_ordS (fun w' => w'.heap[w1.heap.size]? = some (Obj.cells #[Value.int IntKind.i64 r.id, Value.int IntKind.i64 r.size, Value.int IntKind.i64 r.min, Value.int IntKind.i64 r.pgs] 35) ∧ Kept (fun _ => False) w w') [1] [0, 3, 4] [2, 5, 6, 7, 8] (by kernel_rfl) (by kernel_rfl) (fun _ _ d _ _ h => by cases d <;> exact h) (fun k => ⟨X4'.out, K4.dN k⟩) ?_
  simp only [sel, List.filterMap_cons, List.filterMap_nil, List.getElem?_cons_zero, List.getElem?_cons_succ]
  quiet_step (fail)
  refine wpQuiet_nil ?_
  refine wpHeld_step (fun K hK => ?_)
  go_simp
  refine ⟨_, fun _ _ _ => rfl, hK _ ?_⟩
  refine wpHeld_step (fun K hK => ?_)
  go_simp
  refine ⟨_, fun _ _ _ => rfl, hK _ ?_⟩
  refine wpHeld_step (fun K hK => ?_)
  go_simp
  refine ⟨.int .i64 r.pgs, fun w' h _ => (by
    have h1 := cell_in (k := 3) h
    have h2 := lt_in h
    simp at h1
    clear h
    go_simp), hK _ ?_⟩
  refine wpHeld_nil ?_
  rintro _ ⟨nr, rfl⟩
  have X6 : (w4.drewN nr).heap[w1.heap.size]? = _ := X4'.out
  have X7 : (w4.drewN nr).heap[w.heap.size + 1]? = _ := X5.out
  have K6 : Kept (fun _ => False) w (w4.drewN nr) := K4.dN nr
  generalize w4.drewN nr = w6 at X6 X7 K6 ⊢
  clear y0 y3
  have X8 := X6
  have X9 := X7
  have K7 := K6
  clear X6 X7
  refine wpListS_step (fun K hK => ?_)
  go_simp
  go_wp2_with fail
  refine (nameRef_c s _ hs).mono ?_
  rintro e w8 ⟨rfl, hk8⟩
  have Y8 : w8.heap[w1.heap.size]? = _ := (hk8.block _ (lt_in X8) (fun h => h)).trans X8
  have Y9 : w8.heap[w.heap.size + 1]? = _ := (hk8.block _ (lt_in X9) (fun h => h)).trans X9
  have K8 := K7.trans hk8
  refine hK _ _ ⟨Y8, K8⟩ ?_
  clear X8 X9 hK
  rw [nameU_eq]
  refine wpListS_step (fun K hK => ?_)
  go_simp
  go_wp2_with fail
  refine (stableRef_c (nameU s.data.toList) r.pgs (nameU_lt _) hp1 hp2).mono ?_
  rintro e w8 ⟨rfl, rfl⟩
  refine hK _ _ ⟨Y8, K8⟩ ?_
  clear hK
  refine wpListS_step (fun K hK => ?_)
  go_simp
  refine hK _ _ ⟨Y8, K8⟩ ?_
  clear hK
  have z0 : w8.cell? ⟨w.heap.size + 1, 0, none⟩ = some (.int .i64 0) := cell_in Y9
  have z1 : w8.cell? ⟨w.heap.size + 1, 1, none⟩ = some (.int .i64 0) := cell_in Y9
  have f0 : w8.frozen? ⟨w.heap.size + 1, 0, none⟩ = false := frozen_in Y9
  have f1 : w8.frozen? ⟨w.heap.size + 1, 1, none⟩ = false := frozen_in Y9
  have l9 := lt_in Y9
  have l8 := lt_in Y8
  have H9 := Lib.hid Y9
  have H8 := Lib.hid Y8
  clear Y9 Y8
  refine wpListS_step (fun K hK => ?_)
  go_simp
  have h3 := heap_setCell_same (o := 1) (heap_setCell_same (o := 0) H9.out (.int .i64 id)) (.int .i64 (smod (nameU s.data.toList) r.pgs.toNat))
  have h4 : ((w8.setCell ⟨w.heap.size + 1, 0, none⟩ (.int .i64 id)).setCell ⟨w.heap.size + 1, 1, none⟩ (.int .i64 (smod (nameU s.data.toList) r.pgs.toNat))).heap[w1.heap.size]? = _ := (Kept.setCell (F := fun b => b = w.heap.size + 1) _ _ _ rfl |>.block _ (by simpa using l8) (fun h => by have h' : w1.heap.size = w.heap.size + 1 := h; omega)).trans ((Kept.setCell (F := fun b => b = w.heap.size + 1) _ _ _ rfl |>.block _ l8 (fun h => by have h' : w1.heap.size = w.heap.size + 1 := h; omega)).trans H8.out)
  have K9 := (K8.st (p := ⟨w.heap.size + 1, 0, none⟩) (.int .i64 id) (.inr (by simp))).st (p := ⟨w.heap.size + 1, 1, none⟩) (.int .i64 (smod (nameU s.data.toList) r.pgs.toNat)) (.inr (by simp))
  refine hK _ _ ⟨h4, K9⟩ ?_
  clear hK
  have e0 := cell_in (k := 0) h3
  have e1 := cell_in (k := 1) h3
  clear f0 f1 z0 z1
  generalize (w8.setCell ⟨w.heap.size + 1, 0, none⟩ (.int .i64 id)).setCell ⟨w.heap.size + 1, 1, none⟩ (.int .i64 (smod (nameU s.data.toList) r.pgs.toNat)) = w9 at h3 h4 K9 e0 e1 ⊢
  refine wpListS_step (fun K hK => ?_)
  go_simp
  refine hK _ _ ⟨h4, K9⟩ ?_
  clear hK
  refine wpListS_nil ?_
  go_wp2
  exact bodyPost_ret (v := .tuple #[.agg #[.int .i64 id, .int .i64 (smod (nameU s.data.toList) r.pgs.toNat)], .int .i64 0]) (by simp [results, Try.results7, go_sem, e0, e1]) rfl ⟨rfl, K9⟩

end Go.Proofs.Ytfikkjdffmchfaa
