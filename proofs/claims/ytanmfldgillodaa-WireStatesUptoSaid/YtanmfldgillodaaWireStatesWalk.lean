/- The walk of the law WireStates. -/
import Derived.Test.YtanmfldgillodaaAwake
import Derived.Test.YtanmfldgillodaaSr
import Derived.Test.YtanmfldgillodaaOp2
set_option linter.unusedSimpArgs false
set_option linter.unusedVariables false
namespace Go.Proofs.Ytanmfldgillodaa
open Go.RowKit Go.ChangeShapes Go.WideShapes Go.ChangeAt

set_option maxRecDepth 100000 in
set_option maxHeartbeats 3200000 in
theorem states_core {w : World} {S : Nat → Prop} (hS : ∀ k, S k → k < w.heap.size) (x : StateT) (y : TxT) (ss : List ByteArray) {cm ci : List Value} {vl : Value} (hx : StateT.Is w S cm x) (hy : TxT.Is w S ci y) (hl : ListIs 1 textIs w S vl ss) (hmx : x.enc.length ≤ 20000000) (hmy : y.enc.length ≤ 20000000) (hms : (leB 4 ss.length ++ encTs ss).length ≤ 20000000) :
    Calls Try.prog 7 #[.agg cm.toArray, .agg ci.toArray, vl] w fun e w' => e = .returned (.bool true) ∧ Kept (fun _ => False) w w' := by
  have hx0 := hx
  have hy0 := hy
  have okx := lawState.enc x [] (hx.ok (by omega))
  have oky := lawTx.enc y [] (hy.ok (by omega))
  have oks : pL pT (leB 4 ss.length ++ encTs ss) = some (ss, []) := by
    have h1 := pL_enc lawT ss [] (okL_of hl (fun _ s _ h => by rw [encT_length] at h; omega) lawT.pos (by rw [List.length_append] at hms; have : (ss.flatMap encT).length = (encTs ss).length := rfl; omega))
    rw [List.append_nil] at h1
    exact h1
  rw [List.append_nil] at okx oky
  obtain ⟨gl, hr, hgl'⟩ := hl.readsT
  have hgl : ∀ k, gl = some k → k < w.heap.size := fun k hk => hS k (hgl' k hk)
  have hsl : ss.length ≤ 20000000 := by
    have h1 := flat_len_le (e := encT) lawT.pos ss
    rw [List.length_append] at hms
    have : (ss.flatMap encT).length = (encTs ss).length := rfl
    omega
  have hms1 : (encTs ss).length ≤ 20000000 := by rw [List.length_append] at hms; omega
  obtain ⟨v0, v1, v2, rfl, -, -, -, l0, l1, l2⟩ := hx
  obtain ⟨v3, rfl, l3⟩ := hy
  obtain ⟨a0, c0, rfl, -⟩ := l0.shape
  obtain ⟨a1, c1, rfl, -⟩ := l1.shape
  obtain ⟨a2, c2, rfl, -⟩ := l2.shape
  obtain ⟨a3, c3, rfl, -⟩ := l3.shape
  obtain ⟨a4, c4, rfl, -⟩ := hl.shape
  obtain ⟨EX, hEX⟩ : ∃ E, E = x.enc := ⟨_, rfl⟩
  obtain ⟨EY, hEY⟩ : ∃ E, E = y.enc := ⟨_, rfl⟩
  obtain ⟨EZ, hEZ⟩ : ∃ E, E = leB 4 ss.length ++ encTs ss := ⟨_, rfl⟩
  have hmx' := hmx
  have hmy' := hmy
  rw [← hEX] at hmx okx
  rw [← hEY] at hmy oky
  rw [← hEZ] at hms oks
  have OX := Lib.hid okx
  have OY := Lib.hid oky
  have OZ := Lib.hid oks
  have HX := Lib.hid hEX
  have HY := Lib.hid hEY
  have HZ := Lib.hid hEZ
  clear okx oky oks hEX hEY hEZ l0 l1 l2 l3 hl
  go_enter Try.func7, Try.ntmps7
  go_wp2_with fail
  obtain ⟨K0, b1, b2⟩ := two_new w (Obj.cells #[Value.int IntKind.i64 x.les, Value.int IntKind.i64 x.tail.epoch, Value.int IntKind.i64 x.tail.n, Value.slice a0 x.log.length c0, Value.slice a1 x.lasts.length c1, Value.slice a2 x.items.length c2] 56) (Obj.cells #[Value.slice a3 y.steps.length c3] 59)
  have sz0 : ((w.alloc (Obj.cells #[Value.int IntKind.i64 x.les, Value.int IntKind.i64 x.tail.epoch, Value.int IntKind.i64 x.tail.n, Value.slice a0 x.log.length c0, Value.slice a1 x.lasts.length c1, Value.slice a2 x.items.length c2] 56)).alloc (Obj.cells #[Value.slice a3 y.steps.length c3] 59)).heap.size = w.heap.size + 1 + 1 := by simp
  generalize (w.alloc (Obj.cells #[Value.int IntKind.i64 x.les, Value.int IntKind.i64 x.tail.epoch, Value.int IntKind.i64 x.tail.n, Value.slice a0 x.log.length c0, Value.slice a1 x.lasts.length c1, Value.slice a2 x.items.length c2] 56)).alloc (Obj.cells #[Value.slice a3 y.steps.length c3] 59) = w0 at K0 b1 b2 sz0 ⊢
  have x0 := hx0.heap (w' := w0) (S' := S) (fun _ h => h) (fun k hk => K0.block k (hS k hk) (fun h => h))
  have y0 := hy0.heap (w' := w0) (S' := S) (fun _ h => h) (fun k hk => K0.block k (hS k hk) (fun h => h))
  have hS0 : ∀ k, S k → k < w0.heap.size := fun k hk => by have := hS k hk; omega
  have m0 : w0.cell? ⟨w.heap.size, 0, none⟩ = some (Value.int IntKind.i64 x.les) := cell_in b1
  have m1 : w0.cell? ⟨w.heap.size, 1, none⟩ = some (Value.int IntKind.i64 x.tail.epoch) := cell_in b1
  have m2 : w0.cell? ⟨w.heap.size, 2, none⟩ = some (Value.int IntKind.i64 x.tail.n) := cell_in b1
  have m3 : w0.cell? ⟨w.heap.size, 3, none⟩ = some (Value.slice a0 x.log.length c0) := cell_in b1
  have m4 : w0.cell? ⟨w.heap.size, 4, none⟩ = some (Value.slice a1 x.lasts.length c1) := cell_in b1
  have m5 : w0.cell? ⟨w.heap.size, 5, none⟩ = some (Value.slice a2 x.items.length c2) := cell_in b1
  have lb1 := lt_in b1
  have lb2 := lt_in b2
  have B1 := Lib.hid b1
  have B2 := Lib.hid b2
  clear b1 b2
  go_wp2
  refine wp_region_ordS (fun w' => w'.heap[w.heap.size + 1]? = some (Obj.cells #[Value.slice a3 y.steps.length c3] 59)) [0] [2, 4] [1, 3, 5, 6, 7, 8] (by kernel_rfl) (by kernel_rfl) (fun _ _ d _ _ h => by cases d <;> exact h) (fun k => B2.out) ?_
  simp only [sel, List.filterMap_cons, List.filterMap_nil, List.getElem?_cons_zero, List.getElem?_cons_succ]
  repeat (quiet_step (fail))
  refine wpQuiet_nil ?_
  refine wpHeld_step (fun K hK => ?_)
  go_simp
  refine ⟨.agg #[Value.slice a3 y.steps.length c3], fun w' h => (by
    have h0 := cell_in (k := 0) h
    have h2 := lt_in h
    simp at h0
    clear h
    go_simp), hK _ ?_⟩
  refine wpHeld_step (fun K hK => ?_)
  go_simp
  refine ⟨_, fun _ _ => rfl, hK _ ?_⟩
  refine wpHeld_nil ?_
  rintro _ ⟨nr, rfl⟩
  have K1 : Kept (fun _ => False) w0 (w0.drewN nr) := Kept.drewN _ _ _
  have b2' : (w0.drewN nr).heap[w.heap.size + 1]? = some (Obj.cells #[Value.slice a3 y.steps.length c3] 59) := B2.out
  have b1' : (w0.drewN nr).heap[w.heap.size]? = some (Obj.cells #[Value.int IntKind.i64 x.les, Value.int IntKind.i64 x.tail.epoch, Value.int IntKind.i64 x.tail.n, Value.slice a0 x.log.length c0, Value.slice a1 x.lasts.length c1, Value.slice a2 x.items.length c2] 56) := B1.out
  have sz1 : (w0.drewN nr).heap.size = w.heap.size + 1 + 1 := sz0
  generalize w0.drewN nr = w1 at K1 b1' b2' sz1 ⊢
  have hS1 : ∀ k, S k → k < w1.heap.size := fun k hk => by have := hS k hk; omega
  have x1 := x0.heap (w' := w1) (S' := S) (fun _ h => h) (fun k hk => K1.block k (hS0 k hk) (fun h => h))
  have y1 := y0.heap (w' := w1) (S' := S) (fun _ h => h) (fun k hk => K1.block k (hS0 k hk) (fun h => h))
  clear x0 y0 m0 m1 m2 m3 m4 m5
  refine wpListS_step (fun K hK => ?_)
  go_simp
  refine (encState_c hS1 x x1 (by omega)).mono ?_
  rintro e w2 ⟨⟨vA, rfl, FA⟩, k2⟩
  have b2'' := (k2.block _ (lt_in b2') (fun h => h)).trans b2'
  have b1'' := (k2.block _ (lt_in b1') (fun h => h)).trans b1'
  refine hK _ _ b2'' ?_
  clear hK
  rw [← HX.out] at FA
  obtain ⟨gA, oA, hgA⟩ := FA
  obtain ⟨aA, cA, rfl, -, -⟩ := oA.shape
  have s2 := k2.size
  have hS2 : ∀ k, S k → k < w2.heap.size := fun k hk => by have := hS k hk; omega
  have y2 := y1.heap (w' := w2) (S' := S) (fun _ h => h) (fun k hk => k2.block k (hS1 k hk) (fun h => h))
  have x2 := x1.heap (w' := w2) (S' := S) (fun _ h => h) (fun k hk => k2.block k (hS1 k hk) (fun h => h))
  refine wpListS_step (fun K hK => ?_)
  go_simp
  refine (encTx_c hS2 y y2 (by omega)).mono ?_
  rintro e w3 ⟨⟨vB, rfl, gB, oB, hgB⟩, k3⟩
  have B2' := (k3.block _ (lt_in b2'') (fun h => h)).trans b2''
  have B1' := (k3.block _ (lt_in b1'') (fun h => h)).trans b1''
  refine hK _ _ B2' ?_
  clear hK
  obtain ⟨aB, cB, rfl, -, -⟩ := oB.shape
  rw [← HY.out] at oB ⊢
  have K3 : Kept (fun _ => False) w w3 := ((K0.trans K1).trans k2).trans k3
  have r3 := hr.kept K3 (fun _ _ h => h)
  have s3 := k3.size
  refine wpListS_step (fun K hK => ?_)
  go_simp
  refine (strings_c r3 (fun k hk => by have := hgl k hk; omega) (by omega) (by omega)).mono ?_
  rintro e w4 ⟨⟨vC, rfl, gC, oC, hgC⟩, k4⟩
  have B24 := (k4.block _ (lt_in B2') (fun h => h)).trans B2'
  have B14 := (k4.block _ (lt_in B1') (fun h => h)).trans B1'
  refine hK _ _ B24 ?_
  clear hK
  obtain ⟨aC, cC, rfl, -, -⟩ := oC.shape
  rw [← HZ.out] at oC ⊢
  refine wpListS_step (fun K hK => ?_)
  go_simp
  refine hK _ _ B24 ?_
  clear hK
  refine wpListS_step (fun K hK => ?_)
  go_simp
  refine hK _ _ B24 ?_
  clear hK
  refine wpListS_step (fun K hK => ?_)
  go_simp
  refine hK _ _ B24 ?_
  clear hK
  refine wpListS_nil ?_
  have s4 := k4.size
  have oA4 := (oA.kept k3 (fun _ _ h => h)).kept k4 (fun _ _ h => h)
  have oB4 := oB.kept k4 (fun _ _ h => h)
  have K4 : Kept (fun _ => False) w w4 := K3.trans k4
  have hS4 : ∀ k, S k → k < w4.heap.size := fun k hk => by have := hS k hk; omega
  have x4 := hx0.heap (w' := w4) (S' := S) (fun _ h => h) (fun k hk => K4.block k (hS k hk) (fun h => h))
  have y4 := hy0.heap (w' := w4) (S' := S) (fun _ h => h) (fun k hk => K4.block k (hS k hk) (fun h => h))
  have m0 : w4.cell? ⟨w.heap.size, 0, none⟩ = some (Value.int IntKind.i64 x.les) := cell_in B14
  have m1 : w4.cell? ⟨w.heap.size, 1, none⟩ = some (Value.int IntKind.i64 x.tail.epoch) := cell_in B14
  have m2 : w4.cell? ⟨w.heap.size, 2, none⟩ = some (Value.int IntKind.i64 x.tail.n) := cell_in B14
  have m3 : w4.cell? ⟨w.heap.size, 3, none⟩ = some (Value.slice a0 x.log.length c0) := cell_in B14
  have m4 : w4.cell? ⟨w.heap.size, 4, none⟩ = some (Value.slice a1 x.lasts.length c1) := cell_in B14
  have m5 : w4.cell? ⟨w.heap.size, 5, none⟩ = some (Value.slice a2 x.items.length c2) := cell_in B14
  have l1 := lt_in B14
  have l2 := lt_in B24
  have HB1 := Lib.hid B14
  have HB2 := Lib.hid B24
  clear b1' b2' b1'' b2'' B1' B2' B14 B24 x1 y1 x2 y2 oA oB r3
  go_wp2_with fail
  refine (encRefState_c hS4 x x4 (by omega)).mono ?_
  rintro e w5 ⟨⟨vD, rfl, gD, oD, hgD⟩, k5⟩
  obtain ⟨aD, cD, rfl, -, -⟩ := oD.shape
  rw [← HX.out] at oD ⊢
  go_wp2_with fail
  refine (same_c (oA4.kept k5 (fun _ _ h => h)).reads oD.reads).mono ?_
  rintro e w5' ⟨rfl, rfl⟩
  have s5 := k5.size
  have K5 := K4.trans k5
  have B25 := (k5.block _ (lt_in HB2.out) (fun h => h)).trans HB2.out
  have hS5 : ∀ k, S k → k < w5'.heap.size := fun k hk => by have := hS k hk; omega
  have y5 := hy0.heap (w' := w5') (S' := S) (fun _ h => h) (fun k hk => K5.block k (hS k hk) (fun h => h))
  have oA5 := oA4.kept k5 (fun _ _ h => h)
  have oB5 := oB4.kept k5 (fun _ _ h => h)
  have oC5 := oC.kept k5 (fun _ _ h => h)
  have lb25 := lt_in B25
  have j0 : w5'.cell? ⟨w.heap.size + 1, 0, none⟩ = some (Value.slice a3 y.steps.length c3) := cell_in B25
  clear m0 m1 m2 m3 m4 m5 x4 y4 HB1 HB2 B25 oB4 oA4 oC oD
  go_wp2_with fail
  refine (encRefTx_c hS5 y y5 (by omega)).mono ?_
  rintro e w6 ⟨⟨vE, rfl, gE, oE, hgE⟩, k6⟩
  obtain ⟨aE, cE, rfl, -, -⟩ := oE.shape
  rw [← HY.out] at oE ⊢
  go_wp2_with fail
  refine (same_c (oB5.kept k6 (fun _ _ h => h)).reads oE.reads).mono ?_
  rintro e w6' ⟨rfl, rfl⟩
  have s6 := k6.size
  have K6 := K5.trans k6
  have oA6 := oA5.kept k6 (fun _ _ h => h)
  have oB6 := oB5.kept k6 (fun _ _ h => h)
  have oC6 := oC5.kept k6 (fun _ _ h => h)
  have r6 := hr.kept K6 (fun _ _ h => h)
  have sK6 := K6.size
  clear j0 oA5 oB5 oC5 y5 oE
  go_wp2_with fail
  refine (stringsRef_c r6 (fun k hk => by have := hgl k hk; omega) (by omega) (by omega)).mono ?_
  rintro e w7 ⟨⟨vF, rfl, gF, oF, hgF⟩, k7⟩
  obtain ⟨aF, cF, rfl, -, -⟩ := oF.shape
  rw [← HZ.out] at oF ⊢
  go_wp2_with fail
  refine (same_c (oC6.kept k7 (fun _ _ h => h)).reads oF.reads).mono ?_
  rintro e w7' ⟨rfl, rfl⟩
  have s7 := k7.size
  have K7 := K6.trans k7
  have oA7 := oA6.kept k7 (fun _ _ h => h)
  have oB7 := oB6.kept k7 (fun _ _ h => h)
  have oC7 := oC6.kept k7 (fun _ _ h => h)
  clear oA6 oB6 oC6 oF r6
  go_wp2_with fail
  refine (decState_c oA7.reads oA7.lt (by omega)).mono ?_
  rintro e w8 ⟨k8, ⟨x', cs8, hp8, rfl, X8⟩ | ⟨hp8, rfl⟩⟩
  rotate_left
  · exact absurd OX.out (hp8 x)
  rw [OX.out] at hp8
  obtain rfl : x = x' := by simpa using hp8
  clear hp8
  have s8 := k8.size
  have oA8 := oA7.kept k8 (fun _ _ h => h)
  have oB8 := oB7.kept k8 (fun _ _ h => h)
  have oC8 := oC7.kept k8 (fun _ _ h => h)
  have X8' := X8
  obtain ⟨u0, u1, u2, rfl, -, -, -, q0, q1, q2⟩ := X8
  obtain ⟨d0, e0, rfl, -⟩ := q0.shape
  obtain ⟨d1, e1, rfl, -⟩ := q1.shape
  obtain ⟨d2, e2, rfl, -⟩ := q2.shape
  clear q0 q1 q2 oA7 oB7 oC7
  go_wp2_with fail
  have K9 := Kept.alloc (fun _ => False) w8 (Obj.cells #[Value.int IntKind.i64 x.les, Value.int IntKind.i64 x.tail.epoch, Value.int IntKind.i64 x.tail.n, Value.slice d0 x.log.length e0, Value.slice d1 x.lasts.length e1, Value.slice d2 x.items.length e2] 56)
  have n9 : (w8.alloc (Obj.cells #[Value.int IntKind.i64 x.les, Value.int IntKind.i64 x.tail.epoch, Value.int IntKind.i64 x.tail.n, Value.slice d0 x.log.length e0, Value.slice d1 x.lasts.length e1, Value.slice d2 x.items.length e2] 56)).heap[w8.heap.size]? = some (Obj.cells #[Value.int IntKind.i64 x.les, Value.int IntKind.i64 x.tail.epoch, Value.int IntKind.i64 x.tail.n, Value.slice d0 x.log.length e0, Value.slice d1 x.lasts.length e1, Value.slice d2 x.items.length e2] 56) := heap_alloc_new' _ _
  have sz9 : (w8.alloc (Obj.cells #[Value.int IntKind.i64 x.les, Value.int IntKind.i64 x.tail.epoch, Value.int IntKind.i64 x.tail.n, Value.slice d0 x.log.length e0, Value.slice d1 x.lasts.length e1, Value.slice d2 x.items.length e2] 56)).heap.size = w8.heap.size + 1 := by simp
  generalize w8.alloc (Obj.cells #[Value.int IntKind.i64 x.les, Value.int IntKind.i64 x.tail.epoch, Value.int IntKind.i64 x.tail.n, Value.slice d0 x.log.length e0, Value.slice d1 x.lasts.length e1, Value.slice d2 x.items.length e2] 56) = w9 at K9 n9 sz9 ⊢
  have oA9 := oA8.kept K9 (fun _ _ h => h)
  have oB9 := oB8.kept K9 (fun _ _ h => h)
  have oC9 := oC8.kept K9 (fun _ _ h => h)
  have X9 := X8'.heap (w' := w9) (S' := Old w9) (fun k hk => by have := hk.2; show k < w9.heap.size; omega) (fun k hk => K9.block k hk.2 (fun h => h))
  refine (decTx_c oB9.reads oB9.lt (by omega)).mono ?_
  rintro e wa ⟨ka, ⟨y', csa, hpa, rfl, Ya⟩ | ⟨hpa, rfl⟩⟩
  rotate_left
  · exact absurd OY.out (hpa y)
  rw [OY.out] at hpa
  obtain rfl : y = y' := by simpa using hpa
  clear hpa
  have sa := ka.size
  have Ya' := Ya
  obtain ⟨u3, rfl, q3⟩ := Ya
  obtain ⟨d3, e3, rfl, -⟩ := q3.shape
  have na := (ka.block _ (lt_in n9) (fun h => h)).trans n9
  have Xa := X9.heap (w' := wa) (S' := Old wa) (fun k hk => Nat.lt_of_lt_of_le hk ka.size) (fun k hk => ka.block k hk (fun h => h))
  have oAa := oA9.kept ka (fun _ _ h => h)
  have oBa := oB9.kept ka (fun _ _ h => h)
  have oCa := oC9.kept ka (fun _ _ h => h)
  clear q3 n9 X9 oA9 oB9 oC9 oA8 oB8 oC8 X8'
  go_wp2_with fail
  have Kb := Kept.alloc (fun _ => False) wa (Obj.cells #[Value.slice d3 y.steps.length e3] 59)
  have nb : (wa.alloc (Obj.cells #[Value.slice d3 y.steps.length e3] 59)).heap[wa.heap.size]? = some (Obj.cells #[Value.slice d3 y.steps.length e3] 59) := heap_alloc_new' _ _
  have szb : (wa.alloc (Obj.cells #[Value.slice d3 y.steps.length e3] 59)).heap.size = wa.heap.size + 1 := by simp
  generalize wa.alloc (Obj.cells #[Value.slice d3 y.steps.length e3] 59) = wb at Kb nb szb ⊢
  have oAb := oAa.kept Kb (fun _ _ h => h)
  have oBb := oBa.kept Kb (fun _ _ h => h)
  have oCb := oCa.kept Kb (fun _ _ h => h)
  have Xb := Xa.heap (w' := wb) (S' := Old wb) (fun k hk => Nat.lt_of_lt_of_le hk Kb.size) (fun k hk => Kb.block k hk (fun h => h))
  have Yb := Ya'.heap (w' := wb) (S' := Old wb) (fun k hk => by have := hk.2; show k < wb.heap.size; omega) (fun k hk => Kb.block k hk.2 (fun h => h))
  have nbx := (Kb.block _ (lt_in na) (fun h => h)).trans na
  clear Xa Ya' na oAa oBa oCa
  refine (decStrings_c oCb.reads oCb.lt (by omega)).mono ?_
  rintro e wc ⟨kc, ⟨ss', vG, hpc, rfl, Zc⟩ | ⟨hpc, rfl⟩⟩
  rotate_left
  · exact absurd OZ.out (hpc ss)
  rw [OZ.out] at hpc
  obtain rfl : ss = ss' := by simpa using hpc
  clear hpc
  obtain ⟨aG, cG, rfl, -⟩ := Zc.shape
  obtain ⟨gG, rG, hgG⟩ := Zc.readsT
  have sc := kc.size
  have oAc := oAb.kept kc (fun _ _ h => h)
  have oBc := oBb.kept kc (fun _ _ h => h)
  have Xc := Xb.heap (w' := wc) (S' := Old wc) (fun k hk => Nat.lt_of_lt_of_le hk kc.size) (fun k hk => kc.block k hk (fun h => h))
  have Yc := Yb.heap (w' := wc) (S' := Old wc) (fun k hk => Nat.lt_of_lt_of_le hk kc.size) (fun k hk => kc.block k hk (fun h => h))
  have ncx := (kc.block _ (lt_in nbx) (fun h => h)).trans nbx
  have ncy := (kc.block _ (lt_in nb) (fun h => h)).trans nb
  have lcx := lt_in ncx
  have lcy := lt_in ncy
  have m0 : wc.cell? ⟨w8.heap.size, 0, none⟩ = some (Value.int IntKind.i64 x.les) := cell_in ncx
  have m1 : wc.cell? ⟨w8.heap.size, 1, none⟩ = some (Value.int IntKind.i64 x.tail.epoch) := cell_in ncx
  have m2 : wc.cell? ⟨w8.heap.size, 2, none⟩ = some (Value.int IntKind.i64 x.tail.n) := cell_in ncx
  have m3 : wc.cell? ⟨w8.heap.size, 3, none⟩ = some (Value.slice d0 x.log.length e0) := cell_in ncx
  have m4 : wc.cell? ⟨w8.heap.size, 4, none⟩ = some (Value.slice d1 x.lasts.length e1) := cell_in ncx
  have m5 : wc.cell? ⟨w8.heap.size, 5, none⟩ = some (Value.slice d2 x.items.length e2) := cell_in ncx
  have NY := Lib.hid ncy
  have KC := ((((K7.trans k8).trans K9).trans ka).trans Kb).trans kc
  clear Xb Yb nbx nb ncx ncy oAb oBb oCb Zc
  go_wp2_with fail
  refine (num_c 0).mono ?_
  rintro e _ ⟨rfl, rfl⟩
  go_wp2_with fail
  refine (num_c 0).mono ?_
  rintro e _ ⟨rfl, rfl⟩
  go_wp2_with fail
  refine (num_c 0).mono ?_
  rintro e _ ⟨rfl, rfl⟩
  rename World => wd
  go_wp2_with fail
  refine (encRefState_c (S := Old wd) (fun _ h => h) x Xc (by omega)).mono ?_
  rintro e we ⟨⟨vH, rfl, gH, oH, hgH⟩, ke⟩
  obtain ⟨aH, cH, rfl, -, -⟩ := oH.shape
  rw [← HX.out] at oH ⊢
  go_wp2_with fail
  refine (same_c oH.reads (oAc.kept ke (fun _ _ h => h)).reads).mono ?_
  rintro e _ ⟨rfl, rfl⟩
  rename World => we
  have ne := (ke.block _ (lt_in NY.out) (fun h => h)).trans NY.out
  have le := lt_in ne
  have Ye := Yc.heap (w' := we) (S' := Old we) (fun k hk => Nat.lt_of_lt_of_le hk ke.size) (fun k hk => ke.block k hk (fun h => h))
  have oBe := oBc.kept ke (fun _ _ h => h)
  have rGe := rG.kept ke (fun _ _ h => h)
  have re := hr.kept (KC.trans ke) (fun _ _ h => h)
  have j0 : we.cell? ⟨wa.heap.size, 0, none⟩ = some (Value.slice d3 y.steps.length e3) := cell_in ne
  clear m0 m1 m2 m3 m4 m5 ne NY Yc Xc oAc oBc oH rG
  go_wp2_with fail
  refine (encRefTx_c (S := Old we) (fun _ h => h) y Ye (by omega)).mono ?_
  rintro e wf ⟨⟨vI, rfl, gI, oI, hgI⟩, kf⟩
  obtain ⟨aI, cI, rfl, -, -⟩ := oI.shape
  rw [← HY.out] at oI ⊢
  go_wp2_with fail
  refine (same_c oI.reads (oBe.kept kf (fun _ _ h => h)).reads).mono ?_
  rintro e _ ⟨rfl, rfl⟩
  rename World => wf
  have rGf := rGe.kept kf (fun _ _ h => h)
  have rf := re.kept kf (fun _ _ h => h)
  clear j0 rGe re Ye oBe oI
  go_wp2_with fail
  refine (textsSame_c rGf rf (by omega)).mono ?_
  rintro e _ ⟨rfl, nq, rfl⟩
  go_wp2_with fail
  have kg := Kept.drewN (fun _ => False) wf nq
  generalize wf.drewN nq = wg at kg ⊢
  refine awake_c.mono ?_
  rintro e wh ⟨rfl, kh⟩
  have KK := (((KC.trans ke).trans kf).trans kg).trans kh
  clear rGf rf
  go_wp2
  go_ret
  exact ⟨rfl, KK⟩

set_option maxRecDepth 100000 in
theorem wireStates_walk {H : Type} {enc : TypeId × Value → H} {W : World} {base : Nat} {v0 v1 v2 : Value} {d0 d1 d2 : DataW H} {p0 p1 p2 : List MemPlace}
    (k0 : Value.okWide Try.prog W .any base 56 v0) (h0 : DataW.Trod enc Try.prog W 0 (fun _ => true) true 56 v0 d0 p0)
    (k1 : Value.okWide Try.prog W .any base 59 v1) (h1 : DataW.Trod enc Try.prog W 0 (fun _ => true) true 59 v1 d1 p1)
    (k2 : Value.okWide Try.prog W .any base 60 v2) (h2 : DataW.Trod enc Try.prog W 0 (fun _ => true) true 60 v2 d2 p2)
    (hb : Rows.uptoBulkAll [d0, d1, d2] ≤ 1048576) :
    Calls Try.prog 7 #[v0, v1, v2] W fun e w' => e = .returned (.bool true) ∧ Below W.heap.size W w' := by
  obtain ⟨cm, rfl, -⟩ := okWide_struct Try.underlying56 k0
  obtain ⟨ci, rfl, -⟩ := okWide_struct Try.underlying59 k1
  obtain ⟨sa, sn, sc, rfl⟩ := okWide_slice Try.underlying60 k2
  obtain ⟨f0, h0⟩ := h0
  obtain ⟨f1, h1⟩ := h1
  obtain ⟨f2, h2⟩ := h2
  obtain ⟨x, hx, bx⟩ := opens_State _ _ _ h0
  obtain ⟨y, hy, byy⟩ := opens_Tx _ _ _ h1
  obtain ⟨ss, hs, bs⟩ := opens_list (size := 1) (f := encT) Try.underlying60 (by kernel_rfl) (by decide) (opens_text Try.underlying9) _ _ _ h2
  obtain ⟨v, hv, hl⟩ := hs
  simp only [Value.cells, List.cons.injEq, and_true] at hv
  subst hv
  simp only [Rows.uptoBulkAll] at hb
  simp only at bx byy bs
  exact (states_core (S := Old W) (fun _ h => h) x y ss (cm := cm.toList) (ci := ci.toList) hx hy hl (by omega) (by omega) (by rw [List.length_append, leB_length, flat_encTs]; omega)).mono fun e w' ⟨he, hk⟩ => ⟨he, hk.below (Nat.le_refl _) (fun _ h => h.elim)⟩

end Go.Proofs.Ytanmfldgillodaa
