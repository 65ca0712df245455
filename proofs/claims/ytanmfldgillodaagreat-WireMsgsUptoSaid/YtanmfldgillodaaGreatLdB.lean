/- Whole blocks of cells, read and written by one operation. -/
import Derived.Test.YtanmfldgillodaaGreatLib
import Derived.Deep.WholeRow
set_option linter.unusedSimpArgs false
set_option linter.unusedVariables false
namespace Go.Proofs.YtanmfldgillodaaGreat
open Go.RowKit

section
variable {P : Program}

theorem run_load_block {w : World} {b : Nat} {cs : Array Value} {e t : TypeId} {fz : Nat × Nat} {i : TypeInfo} (hh : w.heap[b]? = some (.cells cs e fz)) (ha : (isAgg t).run P w = .ok true w) (hi : P.info? t = some i) (hn : i.size = cs.size) :
    (Instr.loadAt t (.pointer (some ⟨b, 0, none⟩))).run P w = .ok (.agg cs) w := by
  have h1 := run_loadCells_list (P := P) w ⟨b, 0, none⟩ cs.toList (fun j v hv => by
    rw [addr_add, Nat.zero_add, cell_in hh]
    simpa using hv)
  have h2 : (sizeOf t).run P w = .ok cs.size w := by simp [sizeOf, typeInfo, hi, hn]
  simp only [Array.length_toList, Array.toArray_toList] at h1
  simp [Instr.loadAt, Instr.sureAddr, loadVar, ha, h2, h1]

theorem wpList_load_block {w : World} {ops : Array Oper} {rest : List Oper} {o : Oper} {a : Act} {Q : Exit → Act → World → Prop} (hgd : Region.wanted o (yielded ops a.tmps) = true) (t : TypeId) (x : Operand) (ho : o.op = .load t x)
    {b : Nat} (hx : a.eval x = .pointer (some ⟨b, 0, none⟩)) {cs : Array Value} {e : TypeId} {fz : Nat × Nat} {i : TypeInfo} (hh : w.heap[b]? = some (.cells cs e fz)) (ha : (isAgg t).run P w = .ok true w) (hi : P.info? t = some i) (hn : i.size = cs.size)
    (h : wpList P ops Q rest (a.put o.dst (.agg cs)) w) : wpList P ops Q (o :: rest) a w := by
  have hr := run_load_block (P := P) hh ha hi hn
  refine BigFrame.wpList_want hgd fun _ hK => ?_
  unfold Oper.wp execOp
  simp only [ho, hx, Sem.run_bind, Sem.run_pure, Result.andThen_ok, hr]
  exact hK _ _ h

theorem heap_setRow {w : World} {b : Nat} {cur cs : Array Value} {e : TypeId} {fz : Nat × Nat} (hh : w.heap[b]? = some (.cells cur e fz)) : (w.setRow b cs).heap[b]? = some (.cells cs e fz) := by
  unfold World.setRow
  simp only [Array.getElem?_modify, hh, Option.map_some, if_true]

theorem kept_setRow {F : Nat → Prop} (w : World) (b : Nat) (cs : Array Value) (h : F b) : Kept F w (w.setRow b cs) := by
  refine ⟨rfl, rfl, rfl, by simp [World.setRow], fun k hk hF => ?_⟩
  have : k ≠ b := fun h' => hF (h' ▸ h)
  unfold World.setRow
  rw [Array.getElem?_modify, if_neg (fun h' => this h'.symm)]

theorem wpList_store_block {w : World} {ops : Array Oper} {rest : List Oper} {o : Oper} {a : Act} {Q : Exit → Act → World → Prop} (hgd : Region.wanted o (yielded ops a.tmps) = true) (t : TypeId) (x y : Operand) (ho : o.op = .store t x y)
    {b : Nat} (hx : a.eval x = .pointer (some ⟨b, 0, none⟩)) {cur cs : Array Value} (hy : a.eval y = .agg cs) {e : TypeId} {i : TypeInfo} (hh : w.heap[b]? = some (.cells cur e)) (hi : P.info? t = some i) (hn : i.size = cs.size) (hc : cur.size = cs.size) (h1 : cs.toList.all (·.oneCell') = true)
    (h : ∀ w', Kept (fun k => k = b) w w' → w'.heap[b]? = some (.cells cs e) → w'.heap.size = w.heap.size → wpList P ops Q rest (a.put o.dst undef) w') : wpList P ops Q (o :: rest) a w := by
  have h2 : (sizeOf t).run P w = .ok cs.size w := by simp [sizeOf, typeInfo, hi, hn]
  have h3 := run_storeCells_from (P := P) b e cs.toList 0 cur w hh (by simp [hc]) (fun v hv => List.all_eq_true.1 h1 v hv)
  simp only [List.take_zero, List.nil_append, Array.toArray_toList] at h3
  have hr : (Instr.storeAt t (.pointer (some ⟨b, 0, none⟩)) (.agg cs)).run P w = .ok () (w.setRow b cs) := by
    simp [Instr.storeAt, Instr.sureAddr, storeVar, Value.cells, h2, h3]
  refine BigFrame.wpList_want hgd fun _ hK => ?_
  unfold Oper.wp execOp
  simp only [ho, hx, hy, Sem.run_bind, Sem.run_pure, Result.andThen_ok, hr]
  exact hK _ _ (h _ (kept_setRow w b cs rfl) (heap_setRow hh) (by simp [World.setRow]))

theorem setRow_same {w : World} {b : Nat} {cs : Array Value} {e : TypeId} {fz : Nat × Nat} (hh : w.heap[b]? = some (.cells cs e fz)) : w.setRow b cs = w := by
  obtain ⟨heap, tape, drawn, os, output⟩ := w
  unfold World.setRow
  simp only [World.mk.injEq, and_true]
  apply Array.ext'
  apply List.ext_getElem?
  intro k
  simp only [Array.getElem?_toList, Array.getElem?_modify]
  by_cases hk : b = k
  · subst hk
    simp only at hh
    simp only [hh, Option.map_some, if_true]
  · rw [if_neg hk]

/-- What is stored stands there already. -/
theorem wpList_store_same {w : World} {ops : Array Oper} {rest : List Oper} {o : Oper} {a : Act} {Q : Exit → Act → World → Prop} (hgd : Region.wanted o (yielded ops a.tmps) = true) (t : TypeId) (x y : Operand) (ho : o.op = .store t x y)
    {b : Nat} (hx : a.eval x = .pointer (some ⟨b, 0, none⟩)) {cs : Array Value} (hy : a.eval y = .agg cs) {e : TypeId} {i : TypeInfo} (hh : w.heap[b]? = some (.cells cs e)) (hi : P.info? t = some i) (hn : i.size = cs.size) (h1 : cs.toList.all (·.oneCell') = true)
    (h : wpList P ops Q rest (a.put o.dst undef) w) : wpList P ops Q (o :: rest) a w := by
  have h2 : (sizeOf t).run P w = .ok cs.size w := by simp [sizeOf, typeInfo, hi, hn]
  have h3 := run_storeCells_from (P := P) b e cs.toList 0 cs w hh (by simp) (fun v hv => List.all_eq_true.1 h1 v hv)
  simp only [List.take_zero, List.nil_append, Array.toArray_toList, setRow_same hh] at h3
  have hr : (Instr.storeAt t (.pointer (some ⟨b, 0, none⟩)) (.agg cs)).run P w = .ok () w := by
    simp [Instr.storeAt, Instr.sureAddr, storeVar, Value.cells, h2, h3]
  refine BigFrame.wpList_want hgd fun _ hK => ?_
  unfold Oper.wp execOp
  simp only [ho, hx, hy, Sem.run_bind, Sem.run_pure, Result.andThen_ok, hr]
  exact hK _ _ h

theorem wpList_alloc_block {w : World} {ops : Array Oper} {rest : List Oper} {o : Oper} {a : Act} {Q : Exit → Act → World → Prop} (hgd : Region.wanted o (yielded ops a.tmps) = true) (t : TypeId) (ho : o.op = .alloc t)
    {z : Array Value} (hz : (zeroValue t).run P w = .ok (.agg z) w) (b : Nat) (hb : w.heap.size = b)
    (h : wpList P ops Q rest (a.put o.dst (.pointer (some ⟨b, 0, none⟩))) (w.alloc (.cells z t))) : wpList P ops Q (o :: rest) a w := by
  subst hb
  have hr : (Instr.alloc t true (.tuple #[])).run P w = .ok (.pointer (some ⟨w.heap.size, 0, none⟩)) (w.alloc (.cells z t)) := by
    simp [Instr.alloc, hz, newVar, newRow, Value.cells]
  refine BigFrame.wpList_want hgd fun _ hK => ?_
  unfold Oper.wp execOp
  simp only [ho, Sem.run_bind, Sem.run_pure, Result.andThen_ok, hr]
  exact hK _ _ h

end
end Go.Proofs.YtanmfldgillodaaGreat
