/- The contracts of Map and Inc, the program's and the document's: a value in bytes. -/
import Derived.Test.YtanmfldgillodaaGreatCw1
set_option linter.unusedSimpArgs false
set_option linter.unusedVariables false
namespace Go.Proofs.YtanmfldgillodaaGreat
open Go.RowKit

set_option maxRecDepth 100000 in
set_option maxHeartbeats 800000 in
theorem writtenMap_c {w : World} {S : Nat → Prop} (hS : ∀ k, S k → k < w.heap.size) (x : MapT) {cs : List Value} (hx : MapT.Is w S cs x) (hm : x.enc.length ≤ 80000000000000) :
    Calls Tryz.prog 47 #[.agg cs.toArray, .func (.func 45) #[] #[]] w fun e w' => (∃ vc, e = .returned vc ∧ Fresh w w' vc x.enc) ∧ Kept (fun _ => False) w w' := by
  have hx0 := hx
  obtain ⟨v0, v1, v2, rfl, -, -, l0, l1, l2⟩ := hx
  obtain ⟨a0, c0, rfl, -⟩ := l0.shape
  obtain ⟨a1, c1, rfl, -⟩ := l1.shape
  obtain ⟨a2, c2, rfl, -⟩ := l2.shape
  obtain ⟨E, hE⟩ : ∃ E, E = x.enc := ⟨_, rfl⟩
  have hm' := hm
  rw [← hE] at hm ⊢
  have HE := Lib.hid hE
  clear hE
  go_enter Tryz.func47, Tryz.ntmps47
  go_wp2_with fail
  obtain ⟨K0, x1, x2⟩ := two_new w (Obj.cells #[Value.int IntKind.i64 x.epoch, Value.slice a0 x.osds.length c0, Value.slice a1 x.pools.length c1, Value.slice a2 x.buckets.length c2, Value.int IntKind.i64 x.leaf] 70) (Obj.cells #[Value.slice none 0 0, Value.slice none 0 0, Value.bool false] 137)
  generalize (w.alloc (Obj.cells #[Value.int IntKind.i64 x.epoch, Value.slice a0 x.osds.length c0, Value.slice a1 x.pools.length c1, Value.slice a2 x.buckets.length c2, Value.int IntKind.i64 x.leaf] 70)).alloc (Obj.cells #[Value.slice none 0 0, Value.slice none 0 0, Value.bool false] 137) = w0 at K0 x1 x2 ⊢
  have hw0 : Writes w0 (w.heap.size + 1) [] none := ⟨_, x2, Own.nil _ _ _⟩
  have hv0 : Var w0 w.heap.size 0 [Value.int IntKind.i64 x.epoch, Value.slice a0 x.osds.length c0, Value.slice a1 x.pools.length c1, Value.slice a2 x.buckets.length c2, Value.int IntKind.i64 x.leaf] := ⟨_, _, x1, by decide, by decide, fun f hf => by simp⟩
  have hxw := hx0.heap (w' := w0) (S' := S) (fun _ h => h) (fun k hk => K0.block k (hS k hk) (fun h => h))
  refine (clusterWrite_c hw0 (S := S) (fun k hk => ⟨Nat.lt_of_lt_of_le (hS k hk) K0.size, by have := hS k hk; omega, by simp⟩) x hxw hv0 (by simpa using hm')).mono ?_
  rintro e w1 ⟨rfl, g1, hw1, k1, hg1⟩
  obtain ⟨vo, q1, o1⟩ := hw1.ex
  rw [List.nil_append, ← HE.out] at o1
  have z0 : w1.cell? ⟨w.heap.size + 1, 0, none⟩ = some vo := cell_in q1
  have hl := lt_in q1
  have hs := lt_in x2
  obtain ⟨ao, co, rfl, -, -⟩ := o1.shape
  have HO := Lib.hid o1
  clear q1 x1 x2 o1
  go_wp2
  go_ret
  refine ⟨⟨_, rfl, g1, HO.out, fun k hk => ?_⟩, K0.thn k1 (fun i hi => ?_)⟩
  · rcases hg1 k hk with h | h
    · cases h
    · omega
  · rcases hi with h | h
    · exact .inr (by omega)
    · cases h

theorem Fresh.from' {w w0 w' : World} {v : Value} {bs : List UInt8} (h : Fresh w0 w' v bs) (hs : w.heap.size ≤ w0.heap.size) : Fresh w w' v bs := by
  obtain ⟨g, o, hg⟩ := h
  exact ⟨g, o, fun k hk => Nat.le_trans hs (hg k hk)⟩

set_option maxRecDepth 100000 in
set_option maxHeartbeats 800000 in
theorem encMap_c {w : World} {S : Nat → Prop} (hS : ∀ k, S k → k < w.heap.size) (x : MapT) {cs : List Value} (hx : MapT.Is w S cs x) (hm : x.enc.length ≤ 80000000000000) :
    Calls Tryz.prog 19 #[.agg cs.toArray] w fun e w' => (∃ vc, e = .returned vc ∧ Fresh w w' vc x.enc) ∧ Kept (fun _ => False) w w' := by
  have hx0 := hx
  obtain ⟨v0, v1, v2, rfl, -, -, l0, l1, l2⟩ := hx
  obtain ⟨a0, c0, rfl, -⟩ := l0.shape
  obtain ⟨a1, c1, rfl, -⟩ := l1.shape
  obtain ⟨a2, c2, rfl, -⟩ := l2.shape
  obtain ⟨E, hE⟩ : ∃ E, E = x.enc := ⟨_, rfl⟩
  have hm' := hm
  rw [← hE] at hm ⊢
  have HE := Lib.hid hE
  clear hE
  go_enter Tryz.func19, Tryz.ntmps19
  go_wp2_with fail
  have K0 := Kept.alloc (fun _ => False) w (Obj.cells #[Value.int IntKind.i64 x.epoch, Value.slice a0 x.osds.length c0, Value.slice a1 x.pools.length c1, Value.slice a2 x.buckets.length c2, Value.int IntKind.i64 x.leaf] 70)
  have hxw := hx0.heap (w' := w.alloc (Obj.cells #[Value.int IntKind.i64 x.epoch, Value.slice a0 x.osds.length c0, Value.slice a1 x.pools.length c1, Value.slice a2 x.buckets.length c2, Value.int IntKind.i64 x.leaf] 70)) (S' := S) (fun _ h => h) (fun k hk => K0.block k (hS k hk) (fun h => h))
  generalize w.alloc (Obj.cells #[Value.int IntKind.i64 x.epoch, Value.slice a0 x.osds.length c0, Value.slice a1 x.pools.length c1, Value.slice a2 x.buckets.length c2, Value.int IntKind.i64 x.leaf] 70) = w0 at K0 hxw ⊢
  refine (writtenMap_c (S := S) (fun k hk => Nat.lt_of_lt_of_le (hS k hk) K0.size) x hxw hm').mono ?_
  rintro e w1 ⟨⟨vc, rfl, hf⟩, hk⟩
  rw [← HE.out] at hf
  have hf' := hf.from' K0.size
  obtain ⟨ao, co, rfl, -, -⟩ := (hf.choose_spec.1).shape
  go_wp2
  go_ret
  exact ⟨⟨_, rfl, hf'⟩, K0.trans hk⟩

set_option maxRecDepth 100000 in
set_option maxHeartbeats 800000 in
theorem encRefMap_c {w : World} {S : Nat → Prop} (hS : ∀ k, S k → k < w.heap.size) (x : MapT) {cs : List Value} (hx : MapT.Is w S cs x) (hm : x.enc.length ≤ 80000000000000) :
    Calls Tryz.prog 20 #[.agg cs.toArray] w fun e w' => (∃ vc, e = .returned vc ∧ Fresh w w' vc x.enc) ∧ Kept (fun _ => False) w w' := by
  have hx0 := hx
  obtain ⟨v0, v1, v2, rfl, -, -, l0, l1, l2⟩ := hx
  obtain ⟨a0, c0, rfl, -⟩ := l0.shape
  obtain ⟨a1, c1, rfl, -⟩ := l1.shape
  obtain ⟨a2, c2, rfl, -⟩ := l2.shape
  obtain ⟨E, hE⟩ : ∃ E, E = x.enc := ⟨_, rfl⟩
  have hm' := hm
  rw [← hE] at hm ⊢
  have HE := Lib.hid hE
  clear hE
  go_enter Tryz.func20, Tryz.ntmps20
  go_wp2_with fail
  have K0 := Kept.alloc (fun _ => False) w (Obj.cells #[Value.int IntKind.i64 x.epoch, Value.slice a0 x.osds.length c0, Value.slice a1 x.pools.length c1, Value.slice a2 x.buckets.length c2, Value.int IntKind.i64 x.leaf] 70)
  have hxw := hx0.heap (w' := w.alloc (Obj.cells #[Value.int IntKind.i64 x.epoch, Value.slice a0 x.osds.length c0, Value.slice a1 x.pools.length c1, Value.slice a2 x.buckets.length c2, Value.int IntKind.i64 x.leaf] 70)) (S' := S) (fun _ h => h) (fun k hk => K0.block k (hS k hk) (fun h => h))
  generalize w.alloc (Obj.cells #[Value.int IntKind.i64 x.epoch, Value.slice a0 x.osds.length c0, Value.slice a1 x.pools.length c1, Value.slice a2 x.buckets.length c2, Value.int IntKind.i64 x.leaf] 70) = w0 at K0 hxw ⊢
  refine (putMap_c (out := []) (Own.nil w0 _ _) (S := S) (fun k hk => ⟨Nat.lt_of_lt_of_le (hS k hk) K0.size, by simp⟩) x hxw (by simp only [List.length_nil]; omega)).mono ?_
  rintro e w1 ⟨vc, rfl, g1, o1, k1, hg1⟩
  rw [List.nil_append, ← HE.out] at o1
  obtain ⟨ao, co, rfl, -, -⟩ := o1.shape
  have hs := K0.size
  go_wp2
  go_ret
  exact ⟨⟨_, rfl, g1, o1, fun k hk => (hg1 k hk).elim (fun h => by cases h) (fun h => Nat.le_trans hs h)⟩, K0.trans (k1.mono (fun _ _ h => by cases h))⟩

set_option maxRecDepth 100000 in
set_option maxHeartbeats 800000 in
theorem writtenInc_c {w : World} {S : Nat → Prop} (hS : ∀ k, S k → k < w.heap.size) (x : IncT) {cs : List Value} (hx : IncT.Is w S cs x) (hm : x.enc.length ≤ 80000000000000) :
    Calls Tryz.prog 42 #[.agg cs.toArray, .func (.func 40) #[] #[]] w fun e w' => (∃ vc, e = .returned vc ∧ Fresh w w' vc x.enc) ∧ Kept (fun _ => False) w w' := by
  have hx0 := hx
  obtain ⟨v0, rfl, -, l0⟩ := hx
  obtain ⟨a0, c0, rfl, -⟩ := l0.shape
  obtain ⟨E, hE⟩ : ∃ E, E = x.enc := ⟨_, rfl⟩
  have hm' := hm
  rw [← hE] at hm ⊢
  have HE := Lib.hid hE
  clear hE
  go_enter Tryz.func42, Tryz.ntmps42
  go_wp2_with fail
  obtain ⟨K0, x1, x2⟩ := two_new w (Obj.cells #[Value.int IntKind.i64 x.epoch, Value.slice a0 x.changes.length c0] 60) (Obj.cells #[Value.slice none 0 0, Value.slice none 0 0, Value.bool false] 137)
  generalize (w.alloc (Obj.cells #[Value.int IntKind.i64 x.epoch, Value.slice a0 x.changes.length c0] 60)).alloc (Obj.cells #[Value.slice none 0 0, Value.slice none 0 0, Value.bool false] 137) = w0 at K0 x1 x2 ⊢
  have hw0 : Writes w0 (w.heap.size + 1) [] none := ⟨_, x2, Own.nil _ _ _⟩
  have hv0 : Var w0 w.heap.size 0 [Value.int IntKind.i64 x.epoch, Value.slice a0 x.changes.length c0] := ⟨_, _, x1, by decide, by decide, fun f hf => by simp⟩
  have hxw := hx0.heap (w' := w0) (S' := S) (fun _ h => h) (fun k hk => K0.block k (hS k hk) (fun h => h))
  refine (incWrite_c hw0 (S := S) (fun k hk => ⟨Nat.lt_of_lt_of_le (hS k hk) K0.size, by have := hS k hk; omega, by simp⟩) x hxw hv0 (by simpa using hm')).mono ?_
  rintro e w1 ⟨rfl, g1, hw1, k1, hg1⟩
  obtain ⟨vo, q1, o1⟩ := hw1.ex
  rw [List.nil_append, ← HE.out] at o1
  have z0 : w1.cell? ⟨w.heap.size + 1, 0, none⟩ = some vo := cell_in q1
  have hl := lt_in q1
  have hs := lt_in x2
  obtain ⟨ao, co, rfl, -, -⟩ := o1.shape
  have HO := Lib.hid o1
  clear q1 x1 x2 o1
  go_wp2
  go_ret
  refine ⟨⟨_, rfl, g1, HO.out, fun k hk => ?_⟩, K0.thn k1 (fun i hi => ?_)⟩
  · rcases hg1 k hk with h | h
    · cases h
    · omega
  · rcases hi with h | h
    · exact .inr (by omega)
    · cases h

set_option maxRecDepth 100000 in
set_option maxHeartbeats 800000 in
theorem encInc_c {w : World} {S : Nat → Prop} (hS : ∀ k, S k → k < w.heap.size) (x : IncT) {cs : List Value} (hx : IncT.Is w S cs x) (hm : x.enc.length ≤ 80000000000000) :
    Calls Tryz.prog 15 #[.agg cs.toArray] w fun e w' => (∃ vc, e = .returned vc ∧ Fresh w w' vc x.enc) ∧ Kept (fun _ => False) w w' := by
  have hx0 := hx
  obtain ⟨v0, rfl, -, l0⟩ := hx
  obtain ⟨a0, c0, rfl, -⟩ := l0.shape
  obtain ⟨E, hE⟩ : ∃ E, E = x.enc := ⟨_, rfl⟩
  have hm' := hm
  rw [← hE] at hm ⊢
  have HE := Lib.hid hE
  clear hE
  go_enter Tryz.func15, Tryz.ntmps15
  go_wp2_with fail
  have K0 := Kept.alloc (fun _ => False) w (Obj.cells #[Value.int IntKind.i64 x.epoch, Value.slice a0 x.changes.length c0] 60)
  have hxw := hx0.heap (w' := w.alloc (Obj.cells #[Value.int IntKind.i64 x.epoch, Value.slice a0 x.changes.length c0] 60)) (S' := S) (fun _ h => h) (fun k hk => K0.block k (hS k hk) (fun h => h))
  generalize w.alloc (Obj.cells #[Value.int IntKind.i64 x.epoch, Value.slice a0 x.changes.length c0] 60) = w0 at K0 hxw ⊢
  refine (writtenInc_c (S := S) (fun k hk => Nat.lt_of_lt_of_le (hS k hk) K0.size) x hxw hm').mono ?_
  rintro e w1 ⟨⟨vc, rfl, hf⟩, hk⟩
  rw [← HE.out] at hf
  have hf' := hf.from' K0.size
  obtain ⟨ao, co, rfl, -, -⟩ := (hf.choose_spec.1).shape
  go_wp2
  go_ret
  exact ⟨⟨_, rfl, hf'⟩, K0.trans hk⟩

set_option maxRecDepth 100000 in
set_option maxHeartbeats 800000 in
theorem encRefInc_c {w : World} {S : Nat → Prop} (hS : ∀ k, S k → k < w.heap.size) (x : IncT) {cs : List Value} (hx : IncT.Is w S cs x) (hm : x.enc.length ≤ 80000000000000) :
    Calls Tryz.prog 16 #[.agg cs.toArray] w fun e w' => (∃ vc, e = .returned vc ∧ Fresh w w' vc x.enc) ∧ Kept (fun _ => False) w w' := by
  have hx0 := hx
  obtain ⟨v0, rfl, -, l0⟩ := hx
  obtain ⟨a0, c0, rfl, -⟩ := l0.shape
  obtain ⟨E, hE⟩ : ∃ E, E = x.enc := ⟨_, rfl⟩
  have hm' := hm
  rw [← hE] at hm ⊢
  have HE := Lib.hid hE
  clear hE
  go_enter Tryz.func16, Tryz.ntmps16
  go_wp2_with fail
  have K0 := Kept.alloc (fun _ => False) w (Obj.cells #[Value.int IntKind.i64 x.epoch, Value.slice a0 x.changes.length c0] 60)
  have hxw := hx0.heap (w' := w.alloc (Obj.cells #[Value.int IntKind.i64 x.epoch, Value.slice a0 x.changes.length c0] 60)) (S' := S) (fun _ h => h) (fun k hk => K0.block k (hS k hk) (fun h => h))
  generalize w.alloc (Obj.cells #[Value.int IntKind.i64 x.epoch, Value.slice a0 x.changes.length c0] 60) = w0 at K0 hxw ⊢
  refine (putInc_c (out := []) (Own.nil w0 _ _) (S := S) (fun k hk => ⟨Nat.lt_of_lt_of_le (hS k hk) K0.size, by simp⟩) x hxw (by simp only [List.length_nil]; omega)).mono ?_
  rintro e w1 ⟨vc, rfl, g1, o1, k1, hg1⟩
  rw [List.nil_append, ← HE.out] at o1
  obtain ⟨ao, co, rfl, -, -⟩ := o1.shape
  have hs := K0.size
  go_wp2
  go_ret
  exact ⟨⟨_, rfl, g1, o1, fun k hk => (hg1 k hk).elim (fun h => by cases h) (fun h => Nat.le_trans hs h)⟩, K0.trans (k1.mono (fun _ _ h => by cases h))⟩

end Go.Proofs.YtanmfldgillodaaGreat
