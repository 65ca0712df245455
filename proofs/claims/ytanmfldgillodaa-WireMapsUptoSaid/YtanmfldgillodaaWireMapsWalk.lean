/- The walk of the law WireMaps. -/
import Derived.Test.YtanmfldgillodaaAwake
import Derived.Test.YtanmfldgillodaaCm
import Derived.Test.YtanmfldgillodaaRr1
import Derived.Test.YtanmfldgillodaaOp1
set_option linter.unusedSimpArgs false
set_option linter.unusedVariables false
namespace Go.Proofs.Ytanmfldgillodaa
open Go.RowKit Go.ChangeShapes Go.WideShapes Go.ChangeAt

theorem Fresh.reads {w w' : World} {v : Value} {bs : List UInt8} (h : Fresh w w' v bs) : ∃ g, Reads w' 1 v bs.length (bs.map bv) g ∧ (∀ k, g = some k → k < w'.heap.size) ∧ ∀ k, g = some k → w.heap.size ≤ k := by
  obtain ⟨g, o, hg⟩ := h
  exact ⟨g, o.reads, o.lt, hg⟩

set_option maxRecDepth 100000 in
set_option maxHeartbeats 1600000 in
theorem maps_core {w : World} {S : Nat → Prop} (hS : ∀ k, S k → k < w.heap.size) (x : MapT) (y : IncT) {cm ci : List Value} (hx : MapT.Is w S cm x) (hy : IncT.Is w S ci y) (hmx : x.enc.length ≤ 20000000) (hmy : y.enc.length ≤ 20000000) :
    Calls Try.prog 6 #[.agg cm.toArray, .agg ci.toArray] w fun e w' => e = .returned (.bool true) ∧ Kept (fun _ => False) w w' := by
  have hx0 := hx
  have hy0 := hy
  have okx := lawMap.enc x [] (hx.ok (by omega))
  have oky := lawInc.enc y [] (hy.ok (by omega))
  rw [List.append_nil] at okx oky
  obtain ⟨v0, v1, v2, rfl, -, -, l0, l1, l2⟩ := hx
  obtain ⟨v3, rfl, -, l3⟩ := hy
  obtain ⟨a0, c0, rfl, -⟩ := l0.shape
  obtain ⟨a1, c1, rfl, -⟩ := l1.shape
  obtain ⟨a2, c2, rfl, -⟩ := l2.shape
  obtain ⟨a3, c3, rfl, -⟩ := l3.shape
  obtain ⟨EX, hEX⟩ : ∃ E, E = x.enc := ⟨_, rfl⟩
  obtain ⟨EY, hEY⟩ : ∃ E, E = y.enc := ⟨_, rfl⟩
  have hmx' := hmx
  have hmy' := hmy
  rw [← hEX] at hmx okx
  rw [← hEY] at hmy oky
  have OX := Lib.hid okx
  have OY := Lib.hid oky
  have HX := Lib.hid hEX
  have HY := Lib.hid hEY
  clear okx oky hEX hEY l0 l1 l2 l3
  go_enter Try.func6, Try.ntmps6
  go_wp2_with fail
  obtain ⟨K0, b1, b2⟩ := two_new w (Obj.cells #[Value.int IntKind.i64 x.epoch, Value.slice a0 x.osds.length c0, Value.slice a1 x.pools.length c1, Value.slice a2 x.buckets.length c2, Value.int IntKind.i64 x.leaf] 39) (Obj.cells #[Value.int IntKind.i64 y.epoch, Value.slice a3 y.changes.length c3] 42)
  have sz0 : ((w.alloc (Obj.cells #[Value.int IntKind.i64 x.epoch, Value.slice a0 x.osds.length c0, Value.slice a1 x.pools.length c1, Value.slice a2 x.buckets.length c2, Value.int IntKind.i64 x.leaf] 39)).alloc (Obj.cells #[Value.int IntKind.i64 y.epoch, Value.slice a3 y.changes.length c3] 42)).heap.size = w.heap.size + 1 + 1 := by simp
  generalize (w.alloc (Obj.cells #[Value.int IntKind.i64 x.epoch, Value.slice a0 x.osds.length c0, Value.slice a1 x.pools.length c1, Value.slice a2 x.buckets.length c2, Value.int IntKind.i64 x.leaf] 39)).alloc (Obj.cells #[Value.int IntKind.i64 y.epoch, Value.slice a3 y.changes.length c3] 42) = w0 at K0 b1 b2 sz0 ⊢
  have x0 := hx0.heap (w' := w0) (S' := S) (fun _ h => h) (fun k hk => K0.block k (hS k hk) (fun h => h))
  have y0 := hy0.heap (w' := w0) (S' := S) (fun _ h => h) (fun k hk => K0.block k (hS k hk) (fun h => h))
  have hS0 : ∀ k, S k → k < w0.heap.size := fun k hk => by have := hS k hk; omega
  have m0 : w0.cell? ⟨w.heap.size, 0, none⟩ = some (Value.int IntKind.i64 x.epoch) := cell_in b1
  have m1 : w0.cell? ⟨w.heap.size, 1, none⟩ = some (Value.slice a0 x.osds.length c0) := cell_in b1
  have m2 : w0.cell? ⟨w.heap.size, 2, none⟩ = some (Value.slice a1 x.pools.length c1) := cell_in b1
  have m3 : w0.cell? ⟨w.heap.size, 3, none⟩ = some (Value.slice a2 x.buckets.length c2) := cell_in b1
  have m4 : w0.cell? ⟨w.heap.size, 4, none⟩ = some (Value.int IntKind.i64 x.leaf) := cell_in b1
  have lb1 := lt_in b1
  have lb2 := lt_in b2
  have B1 := Lib.hid b1
  have B2 := Lib.hid b2
  clear b1 b2
  go_wp2
  refine wp_region_ordS (fun w' => w'.heap[w.heap.size + 1]? = some (Obj.cells #[Value.int IntKind.i64 y.epoch, Value.slice a3 y.changes.length c3] 42)) [0] [2] [1, 3, 4, 5] (by kernel_rfl) (by kernel_rfl) (fun _ _ d _ _ h => by cases d <;> exact h) (fun k => B2.out) ?_
  simp only [sel, List.filterMap_cons, List.filterMap_nil, List.getElem?_cons_zero, List.getElem?_cons_succ]
  repeat (quiet_step (fail))
  refine wpQuiet_nil ?_
  refine wpHeld_step (fun K hK => ?_)
  go_simp
  refine ⟨.agg #[Value.int IntKind.i64 y.epoch, Value.slice a3 y.changes.length c3], fun w' h => (by
    have h0 := cell_in (k := 0) h
    have h1 := cell_in (k := 1) h
    have h2 := lt_in h
    simp at h0 h1
    clear h
    go_simp), hK _ ?_⟩
  refine wpHeld_nil ?_
  rintro _ ⟨nr, rfl⟩
  have K1 : Kept (fun _ => False) w0 (w0.drewN nr) := Kept.drewN _ _ _
  have b2' : (w0.drewN nr).heap[w.heap.size + 1]? = some (Obj.cells #[Value.int IntKind.i64 y.epoch, Value.slice a3 y.changes.length c3] 42) := B2.out
  have b1' : (w0.drewN nr).heap[w.heap.size]? = some (Obj.cells #[Value.int IntKind.i64 x.epoch, Value.slice a0 x.osds.length c0, Value.slice a1 x.pools.length c1, Value.slice a2 x.buckets.length c2, Value.int IntKind.i64 x.leaf] 39) := B1.out
  have sz1 : (w0.drewN nr).heap.size = w.heap.size + 1 + 1 := sz0
  generalize w0.drewN nr = w1 at K1 b1' b2' sz1 ⊢
  have hS1 : ∀ k, S k → k < w1.heap.size := fun k hk => by have := hS k hk; omega
  have x1 := x0.heap (w' := w1) (S' := S) (fun _ h => h) (fun k hk => K1.block k (hS0 k hk) (fun h => h))
  have y1 := y0.heap (w' := w1) (S' := S) (fun _ h => h) (fun k hk => K1.block k (hS0 k hk) (fun h => h))
  clear x0 y0 m0 m1 m2 m3 m4
  refine wpListS_step (fun K hK => ?_)
  go_simp
  refine (encMap_c hS1 x x1 (by omega)).mono ?_
  rintro e w2 ⟨⟨vA, rfl, FA⟩, k2⟩
  have b2'' := (k2.block _ (lt_in b2') (fun h => h)).trans b2'
  have b1'' := (k2.block _ (lt_in b1') (fun h => h)).trans b1'
  refine hK _ _ b2'' ?_
  clear hK
  rw [← HX.out] at FA
  obtain ⟨gA, oA, hgA⟩ := FA
  obtain ⟨aA, cA, rfl, -, -⟩ := oA.shape
  have s2 := k2.size
  have hS2 : ∀ k, S k → k < w2.heap.size := fun k hk => by have := hS k hk; omega
  have y2 := y1.heap (w' := w2) (S' := S) (fun _ h => h) (fun k hk => k2.block k (hS1 k hk) (fun h => h))
  have x2 := x1.heap (w' := w2) (S' := S) (fun _ h => h) (fun k hk => k2.block k (hS1 k hk) (fun h => h))
  refine wpListS_step (fun K hK => ?_)
  go_simp
  refine (encInc_c hS2 y y2 (by omega)).mono ?_
  rintro e w3 ⟨⟨vB, rfl, gB, oB, hgB⟩, k3⟩
  have B2' := (k3.block _ (lt_in b2'') (fun h => h)).trans b2''
  have B1' := (k3.block _ (lt_in b1'') (fun h => h)).trans b1''
  refine hK _ _ B2' ?_
  clear hK
  obtain ⟨aB, cB, rfl, -, -⟩ := oB.shape
  rw [← HY.out] at oB ⊢
  refine wpListS_step (fun K hK => ?_)
  go_simp
  refine hK _ _ B2' ?_
  clear hK
  refine wpListS_step (fun K hK => ?_)
  go_simp
  refine hK _ _ B2' ?_
  clear hK
  refine wpListS_nil ?_
  have s3 := k3.size
  have oA3 := oA.kept k3 (fun _ _ h => h)
  have K3 : Kept (fun _ => False) w w3 := ((K0.trans K1).trans k2).trans k3
  have hS3 : ∀ k, S k → k < w3.heap.size := fun k hk => by have := hS k hk; omega
  have y3 := y2.heap (w' := w3) (S' := S) (fun _ h => h) (fun k hk => k3.block k (hS2 k hk) (fun h => h))
  have x3 := x2.heap (w' := w3) (S' := S) (fun _ h => h) (fun k hk => k3.block k (hS2 k hk) (fun h => h))
  have lA := oA.lt
  have lB := oB.lt
  have m0 : w3.cell? ⟨w.heap.size, 0, none⟩ = some (Value.int IntKind.i64 x.epoch) := cell_in B1'
  have m1 : w3.cell? ⟨w.heap.size, 1, none⟩ = some (Value.slice a0 x.osds.length c0) := cell_in B1'
  have m2 : w3.cell? ⟨w.heap.size, 2, none⟩ = some (Value.slice a1 x.pools.length c1) := cell_in B1'
  have m3 : w3.cell? ⟨w.heap.size, 3, none⟩ = some (Value.slice a2 x.buckets.length c2) := cell_in B1'
  have m4 : w3.cell? ⟨w.heap.size, 4, none⟩ = some (Value.int IntKind.i64 x.leaf) := cell_in B1'
  have l1 := lt_in B1'
  have l2 := lt_in B2'
  have HB1 := Lib.hid B1'
  have HB2 := Lib.hid B2'
  clear b1' b2' b1'' b2'' B1' B2' x1 y1 x2 y2 oA
  go_wp2_with fail
  refine (encRefMap_c hS3 x x3 (by omega)).mono ?_
  rintro e w4 ⟨⟨vC, rfl, gC, oC, hgC⟩, k4⟩
  obtain ⟨aC, cC, rfl, -, -⟩ := oC.shape
  rw [← HX.out] at oC ⊢
  go_wp2_with fail
  refine (same_c (oA3.kept k4 (fun _ _ h => h)).reads oC.reads).mono ?_
  rintro e w4' ⟨rfl, rfl⟩
  have s4 := k4.size
  have B14 := (k4.block _ (lt_in HB1.out) (fun h => h)).trans HB1.out
  have B24 := (k4.block _ (lt_in HB2.out) (fun h => h)).trans HB2.out
  have hS4 : ∀ k, S k → k < w4'.heap.size := fun k hk => by have := hS k hk; omega
  have y4 := y3.heap (w' := w4') (S' := S) (fun _ h => h) (fun k hk => k4.block k (hS3 k hk) (fun h => h))
  have oB4 := oB.kept k4 (fun _ _ h => h)
  have oA4 := oA3.kept k4 (fun _ _ h => h)
  have lb24 := lt_in B24
  have j0 : w4'.cell? ⟨w.heap.size + 1, 0, none⟩ = some (Value.int IntKind.i64 y.epoch) := cell_in B24
  have j1 : w4'.cell? ⟨w.heap.size + 1, 1, none⟩ = some (Value.slice a3 y.changes.length c3) := cell_in B24
  clear m0 m1 m2 m3 m4 x3 y3 HB1 HB2 B14 B24 oB oA3
  go_wp2_with fail
  refine (encRefInc_c hS4 y y4 (by omega)).mono ?_
  rintro e w5 ⟨⟨vD, rfl, gD, oD, hgD⟩, k5⟩
  obtain ⟨aD, cD, rfl, -, -⟩ := oD.shape
  rw [← HY.out] at oD ⊢
  go_wp2_with fail
  refine (same_c (oB4.kept k5 (fun _ _ h => h)).reads oD.reads).mono ?_
  rintro e w5' ⟨rfl, rfl⟩
  have s5 := k5.size
  have oA5 := oA4.kept k5 (fun _ _ h => h)
  have oB5 := oB4.kept k5 (fun _ _ h => h)
  have K5 := (K3.trans k4).trans k5
  clear j0 j1 oA4 oB4 y4 oC oD
  go_wp2_with fail
  refine (decMap_c oA5.reads oA5.lt (by omega)).mono ?_
  rintro e w6 ⟨k6, ⟨x', cs6, hp6, rfl, X6⟩ | ⟨hp6, rfl⟩⟩
  rotate_left
  · exact absurd OX.out (hp6 x)
  rw [OX.out] at hp6
  obtain rfl : x = x' := by simpa using hp6
  clear hp6
  have s6 := k6.size
  have oA6 := oA5.kept k6 (fun _ _ h => h)
  have oB6 := oB5.kept k6 (fun _ _ h => h)
  have X6' := X6
  obtain ⟨u0, u1, u2, rfl, -, -, q0, q1, q2⟩ := X6
  obtain ⟨d0, e0, rfl, -⟩ := q0.shape
  obtain ⟨d1, e1, rfl, -⟩ := q1.shape
  obtain ⟨d2, e2, rfl, -⟩ := q2.shape
  clear q0 q1 q2 oA5 oB5
  go_wp2_with fail
  have K7 := Kept.alloc (fun _ => False) w6 (Obj.cells #[Value.int IntKind.i64 x.epoch, Value.slice d0 x.osds.length e0, Value.slice d1 x.pools.length e1, Value.slice d2 x.buckets.length e2, Value.int IntKind.i64 x.leaf] 39)
  have n7 : (w6.alloc (Obj.cells #[Value.int IntKind.i64 x.epoch, Value.slice d0 x.osds.length e0, Value.slice d1 x.pools.length e1, Value.slice d2 x.buckets.length e2, Value.int IntKind.i64 x.leaf] 39)).heap[w6.heap.size]? = some (Obj.cells #[Value.int IntKind.i64 x.epoch, Value.slice d0 x.osds.length e0, Value.slice d1 x.pools.length e1, Value.slice d2 x.buckets.length e2, Value.int IntKind.i64 x.leaf] 39) := heap_alloc_new' _ _
  have sz7 : (w6.alloc (Obj.cells #[Value.int IntKind.i64 x.epoch, Value.slice d0 x.osds.length e0, Value.slice d1 x.pools.length e1, Value.slice d2 x.buckets.length e2, Value.int IntKind.i64 x.leaf] 39)).heap.size = w6.heap.size + 1 := by simp
  generalize w6.alloc (Obj.cells #[Value.int IntKind.i64 x.epoch, Value.slice d0 x.osds.length e0, Value.slice d1 x.pools.length e1, Value.slice d2 x.buckets.length e2, Value.int IntKind.i64 x.leaf] 39) = w7 at K7 n7 sz7 ⊢
  have oA7 := oA6.kept K7 (fun _ _ h => h)
  have oB7 := oB6.kept K7 (fun _ _ h => h)
  have X7 := X6'.heap (w' := w7) (S' := Old w7) (fun k hk => by have := hk.2; show k < w7.heap.size; omega) (fun k hk => K7.block k hk.2 (fun h => h))
  refine (decInc_c oB7.reads oB7.lt (by omega)).mono ?_
  rintro e w8 ⟨k8, ⟨y', cs8, hp8, rfl, Y8⟩ | ⟨hp8, rfl⟩⟩
  rotate_left
  · exact absurd OY.out (hp8 y)
  rw [OY.out] at hp8
  obtain rfl : y = y' := by simpa using hp8
  clear hp8
  have s8 := k8.size
  have Y8' := Y8
  obtain ⟨u3, rfl, -, q3⟩ := Y8
  obtain ⟨d3, e3, rfl, -⟩ := q3.shape
  have n8 := (k8.block _ (lt_in n7) (fun h => h)).trans n7
  have X8 := X7.heap (w' := w8) (S' := Old w8) (fun k hk => Nat.lt_of_lt_of_le hk k8.size) (fun k hk => k8.block k hk (fun h => h))
  have oA8 := oA7.kept k8 (fun _ _ h => h)
  have oB8 := oB7.kept k8 (fun _ _ h => h)
  clear q3 n7 X7 oA7 oB7 oA6 oB6 X6'
  go_wp2_with fail
  have K9 := Kept.alloc (fun _ => False) w8 (Obj.cells #[Value.int IntKind.i64 y.epoch, Value.slice d3 y.changes.length e3] 42)
  have n9 : (w8.alloc (Obj.cells #[Value.int IntKind.i64 y.epoch, Value.slice d3 y.changes.length e3] 42)).heap[w8.heap.size]? = some (Obj.cells #[Value.int IntKind.i64 y.epoch, Value.slice d3 y.changes.length e3] 42) := heap_alloc_new' _ _
  have sz9 : (w8.alloc (Obj.cells #[Value.int IntKind.i64 y.epoch, Value.slice d3 y.changes.length e3] 42)).heap.size = w8.heap.size + 1 := by simp
  generalize w8.alloc (Obj.cells #[Value.int IntKind.i64 y.epoch, Value.slice d3 y.changes.length e3] 42) = w9 at K9 n9 sz9 ⊢
  have oA9 := oA8.kept K9 (fun _ _ h => h)
  have oB9 := oB8.kept K9 (fun _ _ h => h)
  have X9 := X8.heap (w' := w9) (S' := Old w9) (fun k hk => Nat.lt_of_lt_of_le hk K9.size) (fun k hk => K9.block k hk (fun h => h))
  have Y9 := Y8'.heap (w' := w9) (S' := Old w9) (fun k hk => by have := hk.2; show k < w9.heap.size; omega) (fun k hk => K9.block k hk.2 (fun h => h))
  have n9m := (K9.block _ (lt_in n8) (fun h => h)).trans n8
  have l9m := lt_in n9m
  have l9 := lt_in n9
  have m0 : w9.cell? ⟨w6.heap.size, 0, none⟩ = some (Value.int IntKind.i64 x.epoch) := cell_in n9m
  have m1 : w9.cell? ⟨w6.heap.size, 1, none⟩ = some (Value.slice d0 x.osds.length e0) := cell_in n9m
  have m2 : w9.cell? ⟨w6.heap.size, 2, none⟩ = some (Value.slice d1 x.pools.length e1) := cell_in n9m
  have m3 : w9.cell? ⟨w6.heap.size, 3, none⟩ = some (Value.slice d2 x.buckets.length e2) := cell_in n9m
  have m4 : w9.cell? ⟨w6.heap.size, 4, none⟩ = some (Value.int IntKind.i64 x.leaf) := cell_in n9m
  have N9 := Lib.hid n9
  clear n8 n9 n9m X8 Y8' oA8 oB8
  refine (num_c 0).mono ?_
  rintro e _ ⟨rfl, rfl⟩
  go_wp2_with fail
  refine (num_c 0).mono ?_
  rintro e _ ⟨rfl, rfl⟩
  rename World => wa
  go_wp2_with fail
  refine (encRefMap_c (S := Old wa) (fun _ h => h) x X9 (by omega)).mono ?_
  rintro e wb ⟨⟨vE, rfl, gE, oE, hgE⟩, kb⟩
  obtain ⟨aE, cE, rfl, -, -⟩ := oE.shape
  rw [← HX.out] at oE ⊢
  go_wp2_with fail
  refine (same_c oE.reads (oA9.kept kb (fun _ _ h => h)).reads).mono ?_
  rintro e _ ⟨rfl, rfl⟩
  rename World => wb
  have nb := (kb.block _ (lt_in N9.out) (fun h => h)).trans N9.out
  have lb := lt_in nb
  have Yb := Y9.heap (w' := wb) (S' := Old wb) (fun k hk => Nat.lt_of_lt_of_le hk kb.size) (fun k hk => kb.block k hk (fun h => h))
  have oBb := oB9.kept kb (fun _ _ h => h)
  have j0 : wb.cell? ⟨w8.heap.size, 0, none⟩ = some (Value.int IntKind.i64 y.epoch) := cell_in nb
  have j1 : wb.cell? ⟨w8.heap.size, 1, none⟩ = some (Value.slice d3 y.changes.length e3) := cell_in nb
  clear m0 m1 m2 m3 m4 nb N9 Y9 X9 oA9 oB9 oE
  go_wp2_with fail
  refine (encRefInc_c (S := Old wb) (fun _ h => h) y Yb (by omega)).mono ?_
  rintro e wc ⟨⟨vF, rfl, gF, oF, hgF⟩, kc⟩
  obtain ⟨aF, cF, rfl, -, -⟩ := oF.shape
  rw [← HY.out] at oF ⊢
  go_wp2_with fail
  refine (same_c oF.reads (oBb.kept kc (fun _ _ h => h)).reads).mono ?_
  rintro e _ ⟨rfl, rfl⟩
  go_wp2_with fail
  refine awake_c.mono ?_
  rintro e wd ⟨rfl, kd⟩
  have KK := (((((K5.trans k6).trans K7).trans k8).trans K9).trans kb).trans (kc.trans kd)
  clear j0 j1 oF oBb Yb
  go_wp2
  go_ret
  exact ⟨rfl, KK⟩

set_option maxRecDepth 100000 in
theorem wireMaps_walk {H : Type} {enc : TypeId × Value → H} {W : World} {base : Nat} {v0 v1 : Value} {d0 d1 : DataW H} {p0 p1 : List MemPlace}
    (k0 : Value.okWide Try.prog W .any base 39 v0) (h0 : DataW.Trod enc Try.prog W 0 (fun _ => true) true 39 v0 d0 p0)
    (k1 : Value.okWide Try.prog W .any base 42 v1) (h1 : DataW.Trod enc Try.prog W 0 (fun _ => true) true 42 v1 d1 p1)
    (hb : Rows.uptoBulkAll [d0, d1] ≤ 1048576) :
    Calls Try.prog 6 #[v0, v1] W fun e w' => e = .returned (.bool true) ∧ Below W.heap.size W w' := by
  obtain ⟨cm, rfl, -⟩ := okWide_struct Try.underlying39 k0
  obtain ⟨ci, rfl, -⟩ := okWide_struct Try.underlying42 k1
  obtain ⟨f0, h0⟩ := h0
  obtain ⟨f1, h1⟩ := h1
  obtain ⟨x, hx, bx⟩ := opens_Map _ _ _ h0
  obtain ⟨y, hy, byy⟩ := opens_Inc _ _ _ h1
  simp only [Rows.uptoBulkAll] at hb
  simp only at bx byy
  exact (maps_core (S := Old W) (fun _ h => h) x y (cm := cm.toList) (ci := ci.toList) hx hy (by omega) (by omega)).mono fun e w' ⟨he, hk⟩ => ⟨he, hk.below (Nat.le_refl _) (fun _ h => h.elim)⟩

end Go.Proofs.Ytanmfldgillodaa
