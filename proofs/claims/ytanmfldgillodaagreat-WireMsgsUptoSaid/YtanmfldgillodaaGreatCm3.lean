/- The contracts of the writers of whole values, the program's and the document's. -/
import Derived.Test.YtanmfldgillodaaGreatCw3
import Derived.Test.YtanmfldgillodaaGreatLdB
set_option linter.unusedSimpArgs false
set_option linter.unusedVariables false
namespace Go.Proofs.YtanmfldgillodaaGreat
open Go.RowKit

set_option maxRecDepth 100000 in
set_option maxHeartbeats 800000 in
theorem writtenMsg_c {w : World} {S : Nat → Prop} (hS : ∀ k, S k → k < w.heap.size) (x : MsgT) {cs : List Value} (hx : MsgT.Is w S cs x) (hm : x.enc.length ≤ 80000000000000) :
    Calls Tryz.prog 32 #[.agg cs.toArray, .func (.func 33) #[] #[]] w fun e w' => (∃ vc, e = .returned vc ∧ Fresh w w' vc x.enc) ∧ Kept (fun _ => False) w w' := by
  have hx0 := hx
  obtain ⟨v0, v1, v2, v3, v4, v5, v6, v7, v8, v9, rfl, -, -, -, -, -, -, -, -, -, -, -, -, -, -, -, -, -, -, -, -, -, -, -, -, -, -, -, -, -, -, -, -, l0, l1, l2, l3, l4, l5, l6, l7, l8, l9⟩ := hx
  have sh0 := l0.shape
  have sh1 := l1.shape
  have sh2 := l2.shape
  have sh3 := l3.shape
  have sh4 := l4.shape
  have sh5 := l5.shape
  have sh6 := l6.shape
  have sh7 := l7.shape
  have sh8 := l8.shape
  have sh9 := l9.shape
  obtain ⟨a0, c0, eh0, qh0⟩ := sh0
  clear qh0
  obtain ⟨a1, c1, eh1, qh1⟩ := sh1
  clear qh1
  obtain ⟨a2, c2, eh2, qh2⟩ := sh2
  clear qh2
  obtain ⟨a3, c3, eh3, qh3⟩ := sh3
  clear qh3
  obtain ⟨a4, c4, eh4, qh4⟩ := sh4
  clear qh4
  obtain ⟨a5, c5, eh5, qh5⟩ := sh5
  clear qh5
  obtain ⟨a6, c6, eh6, qh6⟩ := sh6
  clear qh6
  obtain ⟨a7, c7, eh7, qh7⟩ := sh7
  clear qh7
  obtain ⟨a8, c8, eh8, qh8⟩ := sh8
  clear qh8
  obtain ⟨a9, c9, eh9, qh9⟩ := sh9
  clear qh9
  subst eh0 eh1 eh2 eh3 eh4 eh5 eh6 eh7 eh8 eh9
  obtain ⟨E, hE⟩ : ∃ E, E = x.enc := ⟨_, rfl⟩
  have hm' := hm
  rw [← hE] at hm ⊢
  have HE := Lib.hid hE
  clear hE
  go_enter Tryz.func32, Tryz.ntmps32
  go_wp2_with fail
  obtain ⟨K0, x1, x2⟩ := two_new w (Obj.cells #[Value.int IntKind.i64 x.kind, Value.int IntKind.i64 x.src.kind, Value.int IntKind.i64 x.src.id, Value.int IntKind.i64 x.dst.kind, Value.int IntKind.i64 x.dst.id, Value.int IntKind.i64 x.boot, Value.int IntKind.i64 x.epoch, Value.int IntKind.i64 x.pg.pool, Value.int IntKind.i64 x.pg.seed, Value.int IntKind.i64 x.client, Value.int IntKind.i64 x.number, Value.int IntKind.i64 x.ballot, Value.slice a0 x.slots.length c0, Value.slice a1 x.incs.length c1, Value.slice a2 x.changes.length c2, Value.int IntKind.i64 x.info.les, Value.int IntKind.i64 x.info.head.epoch, Value.int IntKind.i64 x.info.head.n, Value.int IntKind.i64 x.info.tail.epoch, Value.int IntKind.i64 x.info.tail.n, Value.int IntKind.i64 x.info.born, Value.int IntKind.i64 x.state.les, Value.int IntKind.i64 x.state.tail.epoch, Value.int IntKind.i64 x.state.tail.n, Value.slice a3 x.state.log.length c3, Value.slice a4 x.state.lasts.length c4, Value.slice a5 x.state.items.length c5, Value.int IntKind.i64 x.entry.version.epoch, Value.int IntKind.i64 x.entry.version.n, Value.bool x.entry.remove, Value.int IntKind.i64 x.entry.errno, Value.string x.entry.name, Value.int IntKind.i64 x.entry.client, Value.int IntKind.i64 x.entry.number, Value.string x.object.name, Value.int IntKind.i64 x.object.version.epoch, Value.int IntKind.i64 x.object.version.n, Value.slice a6 x.object.data.length c6, Value.int IntKind.i64 x.op.kind, Value.string x.op.name, Value.slice a7 x.op.data.length c7, Value.int IntKind.i64 x.op.expect.epoch, Value.int IntKind.i64 x.op.expect.n, Value.slice a8 x.items.length c8, Value.slice a9 x.names.length c9, Value.int IntKind.i64 x.errno] 48) (Obj.cells #[Value.slice none 0 0, Value.slice none 0 0, Value.bool false] 137)
  generalize (w.alloc (Obj.cells #[Value.int IntKind.i64 x.kind, Value.int IntKind.i64 x.src.kind, Value.int IntKind.i64 x.src.id, Value.int IntKind.i64 x.dst.kind, Value.int IntKind.i64 x.dst.id, Value.int IntKind.i64 x.boot, Value.int IntKind.i64 x.epoch, Value.int IntKind.i64 x.pg.pool, Value.int IntKind.i64 x.pg.seed, Value.int IntKind.i64 x.client, Value.int IntKind.i64 x.number, Value.int IntKind.i64 x.ballot, Value.slice a0 x.slots.length c0, Value.slice a1 x.incs.length c1, Value.slice a2 x.changes.length c2, Value.int IntKind.i64 x.info.les, Value.int IntKind.i64 x.info.head.epoch, Value.int IntKind.i64 x.info.head.n, Value.int IntKind.i64 x.info.tail.epoch, Value.int IntKind.i64 x.info.tail.n, Value.int IntKind.i64 x.info.born, Value.int IntKind.i64 x.state.les, Value.int IntKind.i64 x.state.tail.epoch, Value.int IntKind.i64 x.state.tail.n, Value.slice a3 x.state.log.length c3, Value.slice a4 x.state.lasts.length c4, Value.slice a5 x.state.items.length c5, Value.int IntKind.i64 x.entry.version.epoch, Value.int IntKind.i64 x.entry.version.n, Value.bool x.entry.remove, Value.int IntKind.i64 x.entry.errno, Value.string x.entry.name, Value.int IntKind.i64 x.entry.client, Value.int IntKind.i64 x.entry.number, Value.string x.object.name, Value.int IntKind.i64 x.object.version.epoch, Value.int IntKind.i64 x.object.version.n, Value.slice a6 x.object.data.length c6, Value.int IntKind.i64 x.op.kind, Value.string x.op.name, Value.slice a7 x.op.data.length c7, Value.int IntKind.i64 x.op.expect.epoch, Value.int IntKind.i64 x.op.expect.n, Value.slice a8 x.items.length c8, Value.slice a9 x.names.length c9, Value.int IntKind.i64 x.errno] 48)).alloc (Obj.cells #[Value.slice none 0 0, Value.slice none 0 0, Value.bool false] 137) = w0 at K0 x1 x2 ⊢
  have hw0 : Writes w0 (w.heap.size + 1) [] none := ⟨_, x2, Own.nil _ _ _⟩
  have hv0 : Var w0 w.heap.size 0 [Value.int IntKind.i64 x.kind, Value.int IntKind.i64 x.src.kind, Value.int IntKind.i64 x.src.id, Value.int IntKind.i64 x.dst.kind, Value.int IntKind.i64 x.dst.id, Value.int IntKind.i64 x.boot, Value.int IntKind.i64 x.epoch, Value.int IntKind.i64 x.pg.pool, Value.int IntKind.i64 x.pg.seed, Value.int IntKind.i64 x.client, Value.int IntKind.i64 x.number, Value.int IntKind.i64 x.ballot, Value.slice a0 x.slots.length c0, Value.slice a1 x.incs.length c1, Value.slice a2 x.changes.length c2, Value.int IntKind.i64 x.info.les, Value.int IntKind.i64 x.info.head.epoch, Value.int IntKind.i64 x.info.head.n, Value.int IntKind.i64 x.info.tail.epoch, Value.int IntKind.i64 x.info.tail.n, Value.int IntKind.i64 x.info.born, Value.int IntKind.i64 x.state.les, Value.int IntKind.i64 x.state.tail.epoch, Value.int IntKind.i64 x.state.tail.n, Value.slice a3 x.state.log.length c3, Value.slice a4 x.state.lasts.length c4, Value.slice a5 x.state.items.length c5, Value.int IntKind.i64 x.entry.version.epoch, Value.int IntKind.i64 x.entry.version.n, Value.bool x.entry.remove, Value.int IntKind.i64 x.entry.errno, Value.string x.entry.name, Value.int IntKind.i64 x.entry.client, Value.int IntKind.i64 x.entry.number, Value.string x.object.name, Value.int IntKind.i64 x.object.version.epoch, Value.int IntKind.i64 x.object.version.n, Value.slice a6 x.object.data.length c6, Value.int IntKind.i64 x.op.kind, Value.string x.op.name, Value.slice a7 x.op.data.length c7, Value.int IntKind.i64 x.op.expect.epoch, Value.int IntKind.i64 x.op.expect.n, Value.slice a8 x.items.length c8, Value.slice a9 x.names.length c9, Value.int IntKind.i64 x.errno] := ⟨_, _, x1, by decide, by decide, fun f hf => by simp⟩
  have hxw := hx0.heap (w' := w0) (S' := S) (fun _ h => h) (fun k hk => K0.block k (hS k hk) (fun h => h))
  refine (msgWrite_c hw0 (S := S) (fun k hk => ⟨Nat.lt_of_lt_of_le (hS k hk) K0.size, by have := hS k hk; omega, by simp⟩) x hxw hv0 (by simpa using hm')).mono ?_
  rintro e w1 ⟨rfl, g1, hw1, k1, hg1⟩
  obtain ⟨vo, q1, o1⟩ := hw1.ex
  rw [List.nil_append, ← HE.out] at o1
  have z0 : w1.cell? ⟨w.heap.size + 1, 0, none⟩ = some vo := cell_in q1
  have hl := lt_in q1
  have hs := lt_in x2
  obtain ⟨ao, co, rfl, -, -⟩ := o1.shape
  have HO := Lib.hid o1
  clear q1 x1 x2 o1
  go_wp2
  go_ret
  refine ⟨⟨_, rfl, g1, HO.out, fun k hk => ?_⟩, K0.thn k1 (fun i hi => ?_)⟩
  · rcases hg1 k hk with h | h
    · cases h
    · omega
  · rcases hi with h | h
    · exact .inr (by omega)
    · cases h

theorem msg_info : ∃ i, Tryz.prog.info? 48 = some i ∧ i.size = 46 := by
  have h : (Tryz.prog.info? 48).map (·.size) = some 46 := by kernel_rfl
  cases hq : Tryz.prog.info? 48 with
  | none => simp [hq] at h
  | some i => exact ⟨i, rfl, by simpa [hq] using h⟩

theorem MsgT.Is.len {w : World} {S : Nat → Prop} {cs : List Value} {x : MsgT} (hx : MsgT.Is w S cs x) : cs.length = 46 := by
  obtain ⟨_, _, _, _, _, _, _, _, _, _, h, _⟩ := hx
  rw [h]
  rfl

set_option maxRecDepth 100000 in
set_option maxHeartbeats 800000 in
theorem encMsg_c {w : World} {S : Nat → Prop} (hS : ∀ k, S k → k < w.heap.size) (x : MsgT) {cs : List Value} (hx : MsgT.Is w S cs x) (hm : x.enc.length ≤ 80000000000000) :
    Calls Tryz.prog 5 #[.agg cs.toArray] w fun e w' => (∃ vc, e = .returned vc ∧ Fresh w w' vc x.enc) ∧ Kept (fun _ => False) w w' := by
  have hlen := hx.len
  have HL := Lib.hid hlen
  clear hlen
  obtain ⟨im, him, hism⟩ := msg_info
  go_enter Tryz.func5, Tryz.ntmps5
  go_wp2_with (refine wpList_load_block rfl 48 _ rfl rfl (heap_alloc_new' w (Obj.cells cs.toArray 48)) (Tryz.isAgg48 _) him (hism.trans (by rw [List.size_toArray]; exact HL.out.symm)) ?_)
  have K0 := Kept.alloc (fun _ => False) w (Obj.cells cs.toArray 48)
  have hxw := hx.heap (w' := w.alloc (Obj.cells cs.toArray 48)) (S' := S) (fun _ h => h) (fun k hk => K0.block k (hS k hk) (fun h => h))
  generalize w.alloc (Obj.cells cs.toArray 48) = w0 at K0 hxw ⊢
  refine (writtenMsg_c (S := S) (fun k hk => Nat.lt_of_lt_of_le (hS k hk) K0.size) x hxw hm).mono ?_
  rintro e w1 ⟨⟨vc, rfl, hf⟩, hk⟩
  have hf' := hf.from' K0.size
  obtain ⟨ao, co, rfl, -, -⟩ := (hf.choose_spec.1).shape
  go_wp2
  go_ret
  exact ⟨⟨_, rfl, hf'⟩, K0.trans hk⟩

set_option maxRecDepth 100000 in
set_option maxHeartbeats 800000 in
theorem encRefMsg_c {w : World} {S : Nat → Prop} (hS : ∀ k, S k → k < w.heap.size) (x : MsgT) {cs : List Value} (hx : MsgT.Is w S cs x) (hm : x.enc.length ≤ 80000000000000) :
    Calls Tryz.prog 6 #[.agg cs.toArray] w fun e w' => (∃ vc, e = .returned vc ∧ Fresh w w' vc x.enc) ∧ Kept (fun _ => False) w w' := by
  have hlen := hx.len
  have HL := Lib.hid hlen
  clear hlen
  obtain ⟨im, him, hism⟩ := msg_info
  go_enter Tryz.func6, Tryz.ntmps6
  go_wp2_with (refine wpList_load_block rfl 48 _ rfl rfl (heap_alloc_new' w (Obj.cells cs.toArray 48)) (Tryz.isAgg48 _) him (hism.trans (by rw [List.size_toArray]; exact HL.out.symm)) ?_)
  have K0 := Kept.alloc (fun _ => False) w (Obj.cells cs.toArray 48)
  have hxw := hx.heap (w' := w.alloc (Obj.cells cs.toArray 48)) (S' := S) (fun _ h => h) (fun k hk => K0.block k (hS k hk) (fun h => h))
  generalize w.alloc (Obj.cells cs.toArray 48) = w0 at K0 hxw ⊢
  refine (putMsg_c (out := []) (Own.nil w0 _ _) (S := S) (fun k hk => ⟨Nat.lt_of_lt_of_le (hS k hk) K0.size, by simp⟩) x hxw (by simp only [List.length_nil]; omega)).mono ?_
  rintro e w1 ⟨vc, rfl, g1, o1, k1, hg1⟩
  rw [List.nil_append] at o1
  obtain ⟨ao, co, rfl, -, -⟩ := o1.shape
  have hs := K0.size
  go_wp2
  go_ret
  exact ⟨⟨_, rfl, g1, o1, fun k hk => (hg1 k hk).elim (fun h => by cases h) (fun h => Nat.le_trans hs h)⟩, K0.trans (k1.mono (fun _ _ h => by cases h))⟩

end Go.Proofs.YtanmfldgillodaaGreat
