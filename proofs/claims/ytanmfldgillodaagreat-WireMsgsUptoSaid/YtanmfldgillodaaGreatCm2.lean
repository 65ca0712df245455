/- The contracts of the writers of whole values, the program's and the document's. -/
import Derived.Test.YtanmfldgillodaaGreatCw2
import Derived.Test.YtanmfldgillodaaGreatCm
set_option linter.unusedSimpArgs false
set_option linter.unusedVariables false
namespace Go.Proofs.YtanmfldgillodaaGreat
open Go.RowKit

set_option maxRecDepth 100000 in
set_option maxHeartbeats 800000 in
theorem writtenState_c {w : World} {S : Nat → Prop} (hS : ∀ k, S k → k < w.heap.size) (x : StateT) {cs : List Value} (hx : StateT.Is w S cs x) (hm : x.enc.length ≤ 80000000000000) :
    Calls Tryz.prog 52 #[.agg cs.toArray, .func (.func 50) #[] #[]] w fun e w' => (∃ vc, e = .returned vc ∧ Fresh w w' vc x.enc) ∧ Kept (fun _ => False) w w' := by
  have hx0 := hx
  obtain ⟨v0, v1, v2, rfl, -, -, -, l0, l1, l2⟩ := hx
  obtain ⟨a0, c0, rfl, -⟩ := l0.shape
  obtain ⟨a1, c1, rfl, -⟩ := l1.shape
  obtain ⟨a2, c2, rfl, -⟩ := l2.shape
  obtain ⟨E, hE⟩ : ∃ E, E = x.enc := ⟨_, rfl⟩
  have hm' := hm
  rw [← hE] at hm ⊢
  have HE := Lib.hid hE
  clear hE
  go_enter Tryz.func52, Tryz.ntmps52
  go_wp2_with fail
  obtain ⟨K0, x1, x2⟩ := two_new w (Obj.cells #[Value.int IntKind.i64 x.les, Value.int IntKind.i64 x.tail.epoch, Value.int IntKind.i64 x.tail.n, Value.slice a0 x.log.length c0, Value.slice a1 x.lasts.length c1, Value.slice a2 x.items.length c2] 37) (Obj.cells #[Value.slice none 0 0, Value.slice none 0 0, Value.bool false] 137)
  generalize (w.alloc (Obj.cells #[Value.int IntKind.i64 x.les, Value.int IntKind.i64 x.tail.epoch, Value.int IntKind.i64 x.tail.n, Value.slice a0 x.log.length c0, Value.slice a1 x.lasts.length c1, Value.slice a2 x.items.length c2] 37)).alloc (Obj.cells #[Value.slice none 0 0, Value.slice none 0 0, Value.bool false] 137) = w0 at K0 x1 x2 ⊢
  have hw0 : Writes w0 (w.heap.size + 1) [] none := ⟨_, x2, Own.nil _ _ _⟩
  have hv0 : Var w0 w.heap.size 0 [Value.int IntKind.i64 x.les, Value.int IntKind.i64 x.tail.epoch, Value.int IntKind.i64 x.tail.n, Value.slice a0 x.log.length c0, Value.slice a1 x.lasts.length c1, Value.slice a2 x.items.length c2] := ⟨_, _, x1, by decide, by decide, fun f hf => by simp⟩
  have hxw := hx0.heap (w' := w0) (S' := S) (fun _ h => h) (fun k hk => K0.block k (hS k hk) (fun h => h))
  refine (stateWrite_c hw0 (S := S) (fun k hk => ⟨Nat.lt_of_lt_of_le (hS k hk) K0.size, by have := hS k hk; omega, by simp⟩) x hxw hv0 (by simpa using hm')).mono ?_
  rintro e w1 ⟨rfl, g1, hw1, k1, hg1⟩
  obtain ⟨vo, q1, o1⟩ := hw1.ex
  rw [List.nil_append, ← HE.out] at o1
  have z0 : w1.cell? ⟨w.heap.size + 1, 0, none⟩ = some vo := cell_in q1
  have hl := lt_in q1
  have hs := lt_in x2
  obtain ⟨ao, co, rfl, -, -⟩ := o1.shape
  have HO := Lib.hid o1
  clear q1 x1 x2 o1
  go_wp2
  go_ret
  refine ⟨⟨_, rfl, g1, HO.out, fun k hk => ?_⟩, K0.thn k1 (fun i hi => ?_)⟩
  · rcases hg1 k hk with h | h
    · cases h
    · omega
  · rcases hi with h | h
    · exact .inr (by omega)
    · cases h

set_option maxRecDepth 100000 in
set_option maxHeartbeats 800000 in
theorem encState_c {w : World} {S : Nat → Prop} (hS : ∀ k, S k → k < w.heap.size) (x : StateT) {cs : List Value} (hx : StateT.Is w S cs x) (hm : x.enc.length ≤ 80000000000000) :
    Calls Tryz.prog 23 #[.agg cs.toArray] w fun e w' => (∃ vc, e = .returned vc ∧ Fresh w w' vc x.enc) ∧ Kept (fun _ => False) w w' := by
  have hx0 := hx
  obtain ⟨v0, v1, v2, rfl, -, -, -, l0, l1, l2⟩ := hx
  obtain ⟨a0, c0, rfl, -⟩ := l0.shape
  obtain ⟨a1, c1, rfl, -⟩ := l1.shape
  obtain ⟨a2, c2, rfl, -⟩ := l2.shape
  obtain ⟨E, hE⟩ : ∃ E, E = x.enc := ⟨_, rfl⟩
  have hm' := hm
  rw [← hE] at hm ⊢
  have HE := Lib.hid hE
  clear hE
  go_enter Tryz.func23, Tryz.ntmps23
  go_wp2_with fail
  have K0 := Kept.alloc (fun _ => False) w (Obj.cells #[Value.int IntKind.i64 x.les, Value.int IntKind.i64 x.tail.epoch, Value.int IntKind.i64 x.tail.n, Value.slice a0 x.log.length c0, Value.slice a1 x.lasts.length c1, Value.slice a2 x.items.length c2] 37)
  have hxw := hx0.heap (w' := w.alloc (Obj.cells #[Value.int IntKind.i64 x.les, Value.int IntKind.i64 x.tail.epoch, Value.int IntKind.i64 x.tail.n, Value.slice a0 x.log.length c0, Value.slice a1 x.lasts.length c1, Value.slice a2 x.items.length c2] 37)) (S' := S) (fun _ h => h) (fun k hk => K0.block k (hS k hk) (fun h => h))
  generalize w.alloc (Obj.cells #[Value.int IntKind.i64 x.les, Value.int IntKind.i64 x.tail.epoch, Value.int IntKind.i64 x.tail.n, Value.slice a0 x.log.length c0, Value.slice a1 x.lasts.length c1, Value.slice a2 x.items.length c2] 37) = w0 at K0 hxw ⊢
  refine (writtenState_c (S := S) (fun k hk => Nat.lt_of_lt_of_le (hS k hk) K0.size) x hxw hm').mono ?_
  rintro e w1 ⟨⟨vc, rfl, hf⟩, hk⟩
  rw [← HE.out] at hf
  have hf' := hf.from' K0.size
  obtain ⟨ao, co, rfl, -, -⟩ := (hf.choose_spec.1).shape
  go_wp2
  go_ret
  exact ⟨⟨_, rfl, hf'⟩, K0.trans hk⟩

set_option maxRecDepth 100000 in
set_option maxHeartbeats 800000 in
theorem encRefState_c {w : World} {S : Nat → Prop} (hS : ∀ k, S k → k < w.heap.size) (x : StateT) {cs : List Value} (hx : StateT.Is w S cs x) (hm : x.enc.length ≤ 80000000000000) :
    Calls Tryz.prog 24 #[.agg cs.toArray] w fun e w' => (∃ vc, e = .returned vc ∧ Fresh w w' vc x.enc) ∧ Kept (fun _ => False) w w' := by
  have hx0 := hx
  obtain ⟨v0, v1, v2, rfl, -, -, -, l0, l1, l2⟩ := hx
  obtain ⟨a0, c0, rfl, -⟩ := l0.shape
  obtain ⟨a1, c1, rfl, -⟩ := l1.shape
  obtain ⟨a2, c2, rfl, -⟩ := l2.shape
  obtain ⟨E, hE⟩ : ∃ E, E = x.enc := ⟨_, rfl⟩
  have hm' := hm
  rw [← hE] at hm ⊢
  have HE := Lib.hid hE
  clear hE
  go_enter Tryz.func24, Tryz.ntmps24
  go_wp2_with fail
  have K0 := Kept.alloc (fun _ => False) w (Obj.cells #[Value.int IntKind.i64 x.les, Value.int IntKind.i64 x.tail.epoch, Value.int IntKind.i64 x.tail.n, Value.slice a0 x.log.length c0, Value.slice a1 x.lasts.length c1, Value.slice a2 x.items.length c2] 37)
  have hxw := hx0.heap (w' := w.alloc (Obj.cells #[Value.int IntKind.i64 x.les, Value.int IntKind.i64 x.tail.epoch, Value.int IntKind.i64 x.tail.n, Value.slice a0 x.log.length c0, Value.slice a1 x.lasts.length c1, Value.slice a2 x.items.length c2] 37)) (S' := S) (fun _ h => h) (fun k hk => K0.block k (hS k hk) (fun h => h))
  generalize w.alloc (Obj.cells #[Value.int IntKind.i64 x.les, Value.int IntKind.i64 x.tail.epoch, Value.int IntKind.i64 x.tail.n, Value.slice a0 x.log.length c0, Value.slice a1 x.lasts.length c1, Value.slice a2 x.items.length c2] 37) = w0 at K0 hxw ⊢
  refine (putState_c (out := []) (Own.nil w0 _ _) (S := S) (fun k hk => ⟨Nat.lt_of_lt_of_le (hS k hk) K0.size, by simp⟩) x hxw (by simp only [List.length_nil]; omega)).mono ?_
  rintro e w1 ⟨vc, rfl, g1, o1, k1, hg1⟩
  rw [List.nil_append, ← HE.out] at o1
  obtain ⟨ao, co, rfl, -, -⟩ := o1.shape
  have hs := K0.size
  go_wp2
  go_ret
  exact ⟨⟨_, rfl, g1, o1, fun k hk => (hg1 k hk).elim (fun h => by cases h) (fun h => Nat.le_trans hs h)⟩, K0.trans (k1.mono (fun _ _ h => by cases h))⟩

set_option maxRecDepth 100000 in
set_option maxHeartbeats 800000 in
theorem writtenTx_c {w : World} {S : Nat → Prop} (hS : ∀ k, S k → k < w.heap.size) (x : TxT) {cs : List Value} (hx : TxT.Is w S cs x) (hm : x.enc.length ≤ 80000000000000) :
    Calls Tryz.prog 57 #[.agg cs.toArray, .func (.func 55) #[] #[]] w fun e w' => (∃ vc, e = .returned vc ∧ Fresh w w' vc x.enc) ∧ Kept (fun _ => False) w w' := by
  have hx0 := hx
  obtain ⟨v0, rfl, l0⟩ := hx
  obtain ⟨a0, c0, rfl, -⟩ := l0.shape
  obtain ⟨E, hE⟩ : ∃ E, E = x.enc := ⟨_, rfl⟩
  have hm' := hm
  rw [← hE] at hm ⊢
  have HE := Lib.hid hE
  clear hE
  go_enter Tryz.func57, Tryz.ntmps57
  go_wp2_with fail
  obtain ⟨K0, x1, x2⟩ := two_new w (Obj.cells #[Value.slice a0 x.steps.length c0] 83) (Obj.cells #[Value.slice none 0 0, Value.slice none 0 0, Value.bool false] 137)
  generalize (w.alloc (Obj.cells #[Value.slice a0 x.steps.length c0] 83)).alloc (Obj.cells #[Value.slice none 0 0, Value.slice none 0 0, Value.bool false] 137) = w0 at K0 x1 x2 ⊢
  have hw0 : Writes w0 (w.heap.size + 1) [] none := ⟨_, x2, Own.nil _ _ _⟩
  have hv0 : Var w0 w.heap.size 0 [Value.slice a0 x.steps.length c0] := ⟨_, _, x1, by decide, by decide, fun f hf => by simp⟩
  have hxw := hx0.heap (w' := w0) (S' := S) (fun _ h => h) (fun k hk => K0.block k (hS k hk) (fun h => h))
  refine (txWrite_c hw0 (S := S) (fun k hk => ⟨Nat.lt_of_lt_of_le (hS k hk) K0.size, by have := hS k hk; omega, by simp⟩) x hxw hv0 (by simpa using hm')).mono ?_
  rintro e w1 ⟨rfl, g1, hw1, k1, hg1⟩
  obtain ⟨vo, q1, o1⟩ := hw1.ex
  rw [List.nil_append, ← HE.out] at o1
  have z0 : w1.cell? ⟨w.heap.size + 1, 0, none⟩ = some vo := cell_in q1
  have hl := lt_in q1
  have hs := lt_in x2
  obtain ⟨ao, co, rfl, -, -⟩ := o1.shape
  have HO := Lib.hid o1
  clear q1 x1 x2 o1
  go_wp2
  go_ret
  refine ⟨⟨_, rfl, g1, HO.out, fun k hk => ?_⟩, K0.thn k1 (fun i hi => ?_)⟩
  · rcases hg1 k hk with h | h
    · cases h
    · omega
  · rcases hi with h | h
    · exact .inr (by omega)
    · cases h

set_option maxRecDepth 100000 in
set_option maxHeartbeats 800000 in
theorem encTx_c {w : World} {S : Nat → Prop} (hS : ∀ k, S k → k < w.heap.size) (x : TxT) {cs : List Value} (hx : TxT.Is w S cs x) (hm : x.enc.length ≤ 80000000000000) :
    Calls Tryz.prog 27 #[.agg cs.toArray] w fun e w' => (∃ vc, e = .returned vc ∧ Fresh w w' vc x.enc) ∧ Kept (fun _ => False) w w' := by
  have hx0 := hx
  obtain ⟨v0, rfl, l0⟩ := hx
  obtain ⟨a0, c0, rfl, -⟩ := l0.shape
  obtain ⟨E, hE⟩ : ∃ E, E = x.enc := ⟨_, rfl⟩
  have hm' := hm
  rw [← hE] at hm ⊢
  have HE := Lib.hid hE
  clear hE
  go_enter Tryz.func27, Tryz.ntmps27
  go_wp2_with fail
  have K0 := Kept.alloc (fun _ => False) w (Obj.cells #[Value.slice a0 x.steps.length c0] 83)
  have hxw := hx0.heap (w' := w.alloc (Obj.cells #[Value.slice a0 x.steps.length c0] 83)) (S' := S) (fun _ h => h) (fun k hk => K0.block k (hS k hk) (fun h => h))
  generalize w.alloc (Obj.cells #[Value.slice a0 x.steps.length c0] 83) = w0 at K0 hxw ⊢
  refine (writtenTx_c (S := S) (fun k hk => Nat.lt_of_lt_of_le (hS k hk) K0.size) x hxw hm').mono ?_
  rintro e w1 ⟨⟨vc, rfl, hf⟩, hk⟩
  rw [← HE.out] at hf
  have hf' := hf.from' K0.size
  obtain ⟨ao, co, rfl, -, -⟩ := (hf.choose_spec.1).shape
  go_wp2
  go_ret
  exact ⟨⟨_, rfl, hf'⟩, K0.trans hk⟩

set_option maxRecDepth 100000 in
set_option maxHeartbeats 800000 in
theorem encRefTx_c {w : World} {S : Nat → Prop} (hS : ∀ k, S k → k < w.heap.size) (x : TxT) {cs : List Value} (hx : TxT.Is w S cs x) (hm : x.enc.length ≤ 80000000000000) :
    Calls Tryz.prog 28 #[.agg cs.toArray] w fun e w' => (∃ vc, e = .returned vc ∧ Fresh w w' vc x.enc) ∧ Kept (fun _ => False) w w' := by
  have hx0 := hx
  obtain ⟨v0, rfl, l0⟩ := hx
  obtain ⟨a0, c0, rfl, -⟩ := l0.shape
  obtain ⟨E, hE⟩ : ∃ E, E = x.enc := ⟨_, rfl⟩
  have hm' := hm
  rw [← hE] at hm ⊢
  have HE := Lib.hid hE
  clear hE
  go_enter Tryz.func28, Tryz.ntmps28
  go_wp2_with fail
  have K0 := Kept.alloc (fun _ => False) w (Obj.cells #[Value.slice a0 x.steps.length c0] 83)
  have hxw := hx0.heap (w' := w.alloc (Obj.cells #[Value.slice a0 x.steps.length c0] 83)) (S' := S) (fun _ h => h) (fun k hk => K0.block k (hS k hk) (fun h => h))
  generalize w.alloc (Obj.cells #[Value.slice a0 x.steps.length c0] 83) = w0 at K0 hxw ⊢
  refine (putTx_c (out := []) (Own.nil w0 _ _) (S := S) (fun k hk => ⟨Nat.lt_of_lt_of_le (hS k hk) K0.size, by simp⟩) x hxw (by simp only [List.length_nil]; omega)).mono ?_
  rintro e w1 ⟨vc, rfl, g1, o1, k1, hg1⟩
  rw [List.nil_append, ← HE.out] at o1
  obtain ⟨ao, co, rfl, -, -⟩ := o1.shape
  have hs := K0.size
  go_wp2
  go_ret
  exact ⟨⟨_, rfl, g1, o1, fun k hk => (hg1 k hk).elim (fun h => by cases h) (fun h => Nat.le_trans hs h)⟩, K0.trans (k1.mono (fun _ _ h => by cases h))⟩

end Go.Proofs.YtanmfldgillodaaGreat
