/- Opening the structs of the wire layer. -/
import Derived.Test.YtanmfldgillodaaGreatOp
set_option linter.unusedSimpArgs false
set_option linter.unusedVariables false
namespace Go.Proofs.YtanmfldgillodaaGreat
open Go.RowKit Go.ChangeShapes Go.WideShapes Go.ChangeAt

section
variable {H : Type} {enc : TypeId × Value → H} {W : World}

theorem opens_encI {P : Program} {t : TypeId} (ht : P.underlying t = some (.int .i64)) : Opens enc P W t intIs (fun y => (encI y).length) := by
  intro fuel cs x h
  obtain ⟨y, h1, h2⟩ := opens_int ht fuel cs x h
  exact ⟨y, h1, Nat.le_trans (Nat.le_of_eq (encI_length y)) h2⟩

set_option maxRecDepth 100000 in
set_option maxHeartbeats 800000 in
theorem opens_Osd : Opens enc Tryz.prog W 215 OsdT.Is (fun y => y.enc.length) := by
  intro fuel cs x h
  obtain ⟨xs, m, rfl, rfl, hl, hxl, hel⟩ := DataW.trod_struct Tryz.underlying215 h
  have hc : Tryz.prog.cellsOf 215 = 6 := by kernel_rfl
  rw [hc] at hl
  have hx : xs.length = 6 := hxl
  match cs, hl with
  | [c0, c1, c2, c3, c4, c5], _ =>
  match xs, hx with
  | [x0, x1, x2, x3, x4, x5], _ =>
  have e0 : DataW.trod enc Tryz.prog W 0 (fun _ => true) true m 4 (([c0, c1, c2, c3, c4, c5].drop 0).take (Tryz.prog.cellsOf 4)) = some x0 := hel 0 _ rfl
  rw [show Tryz.prog.cellsOf 4 = 1 by kernel_rfl] at e0
  replace e0 : DataW.trod enc Tryz.prog W 0 (fun _ => true) true m 4 [c0] = some x0 := e0
  have e1 : DataW.trod enc Tryz.prog W 0 (fun _ => true) true m 4 (([c0, c1, c2, c3, c4, c5].drop 1).take (Tryz.prog.cellsOf 4)) = some x1 := hel 1 _ rfl
  rw [show Tryz.prog.cellsOf 4 = 1 by kernel_rfl] at e1
  replace e1 : DataW.trod enc Tryz.prog W 0 (fun _ => true) true m 4 [c1] = some x1 := e1
  have e2 : DataW.trod enc Tryz.prog W 0 (fun _ => true) true m 3 (([c0, c1, c2, c3, c4, c5].drop 2).take (Tryz.prog.cellsOf 3)) = some x2 := hel 2 _ rfl
  rw [show Tryz.prog.cellsOf 3 = 1 by kernel_rfl] at e2
  replace e2 : DataW.trod enc Tryz.prog W 0 (fun _ => true) true m 3 [c2] = some x2 := e2
  have e3 : DataW.trod enc Tryz.prog W 0 (fun _ => true) true m 3 (([c0, c1, c2, c3, c4, c5].drop 3).take (Tryz.prog.cellsOf 3)) = some x3 := hel 3 _ rfl
  rw [show Tryz.prog.cellsOf 3 = 1 by kernel_rfl] at e3
  replace e3 : DataW.trod enc Tryz.prog W 0 (fun _ => true) true m 3 [c3] = some x3 := e3
  have e4 : DataW.trod enc Tryz.prog W 0 (fun _ => true) true m 3 (([c0, c1, c2, c3, c4, c5].drop 4).take (Tryz.prog.cellsOf 3)) = some x4 := hel 4 _ rfl
  rw [show Tryz.prog.cellsOf 3 = 1 by kernel_rfl] at e4
  replace e4 : DataW.trod enc Tryz.prog W 0 (fun _ => true) true m 3 [c4] = some x4 := e4
  have e5 : DataW.trod enc Tryz.prog W 0 (fun _ => true) true m 3 (([c0, c1, c2, c3, c4, c5].drop 5).take (Tryz.prog.cellsOf 3)) = some x5 := hel 5 _ rfl
  rw [show Tryz.prog.cellsOf 3 = 1 by kernel_rfl] at e5
  replace e5 : DataW.trod enc Tryz.prog W 0 (fun _ => true) true m 3 [c5] = some x5 := e5
  obtain ⟨y0, h0, b0⟩ := opens_bool Tryz.underlying4 _ _ _ e0
  unfold flagIs at h0
  simp only [List.cons.injEq, and_true] at h0
  subst h0
  obtain ⟨y1, h1, b1⟩ := opens_bool Tryz.underlying4 _ _ _ e1
  unfold flagIs at h1
  simp only [List.cons.injEq, and_true] at h1
  subst h1
  obtain ⟨y2, h2, b2⟩ := opens_int Tryz.underlying3 _ _ _ e2
  obtain ⟨q2, j2⟩ := h2
  simp only [List.cons.injEq, and_true] at q2
  subst q2
  obtain ⟨y3, h3, b3⟩ := opens_int Tryz.underlying3 _ _ _ e3
  obtain ⟨q3, j3⟩ := h3
  simp only [List.cons.injEq, and_true] at q3
  subst q3
  obtain ⟨y4, h4, b4⟩ := opens_int Tryz.underlying3 _ _ _ e4
  obtain ⟨q4, j4⟩ := h4
  simp only [List.cons.injEq, and_true] at q4
  subst q4
  obtain ⟨y5, h5, b5⟩ := opens_int Tryz.underlying3 _ _ _ e5
  obtain ⟨q5, j5⟩ := h5
  simp only [List.cons.injEq, and_true] at q5
  subst q5
  refine ⟨⟨y0, y1, y2, y3, y4, y5⟩, ⟨rfl, j2, j3, j4, j5⟩, ?_⟩
  simp only [OsdT.enc, List.length_append, List.length_nil, encI_length, bB_length, leB_length, Rows.uptoBulk, Rows.uptoBulkAll, List.map_cons, List.map_nil]
  simp only [List.length_append, List.length_nil, encI_length, bB_length, leB_length] at b0 b1 b2 b3 b4 b5
  skip
  omega

set_option maxRecDepth 100000 in
set_option maxHeartbeats 800000 in
theorem opens_Pool : Opens enc Tryz.prog W 155 PoolT.Is (fun y => y.enc.length) := by
  intro fuel cs x h
  obtain ⟨xs, m, rfl, rfl, hl, hxl, hel⟩ := DataW.trod_struct Tryz.underlying155 h
  have hc : Tryz.prog.cellsOf 155 = 4 := by kernel_rfl
  rw [hc] at hl
  have hx : xs.length = 4 := hxl
  match cs, hl with
  | [c0, c1, c2, c3], _ =>
  match xs, hx with
  | [x0, x1, x2, x3], _ =>
  have e0 : DataW.trod enc Tryz.prog W 0 (fun _ => true) true m 3 (([c0, c1, c2, c3].drop 0).take (Tryz.prog.cellsOf 3)) = some x0 := hel 0 _ rfl
  rw [show Tryz.prog.cellsOf 3 = 1 by kernel_rfl] at e0
  replace e0 : DataW.trod enc Tryz.prog W 0 (fun _ => true) true m 3 [c0] = some x0 := e0
  have e1 : DataW.trod enc Tryz.prog W 0 (fun _ => true) true m 3 (([c0, c1, c2, c3].drop 1).take (Tryz.prog.cellsOf 3)) = some x1 := hel 1 _ rfl
  rw [show Tryz.prog.cellsOf 3 = 1 by kernel_rfl] at e1
  replace e1 : DataW.trod enc Tryz.prog W 0 (fun _ => true) true m 3 [c1] = some x1 := e1
  have e2 : DataW.trod enc Tryz.prog W 0 (fun _ => true) true m 3 (([c0, c1, c2, c3].drop 2).take (Tryz.prog.cellsOf 3)) = some x2 := hel 2 _ rfl
  rw [show Tryz.prog.cellsOf 3 = 1 by kernel_rfl] at e2
  replace e2 : DataW.trod enc Tryz.prog W 0 (fun _ => true) true m 3 [c2] = some x2 := e2
  have e3 : DataW.trod enc Tryz.prog W 0 (fun _ => true) true m 3 (([c0, c1, c2, c3].drop 3).take (Tryz.prog.cellsOf 3)) = some x3 := hel 3 _ rfl
  rw [show Tryz.prog.cellsOf 3 = 1 by kernel_rfl] at e3
  replace e3 : DataW.trod enc Tryz.prog W 0 (fun _ => true) true m 3 [c3] = some x3 := e3
  obtain ⟨y0, h0, b0⟩ := opens_int Tryz.underlying3 _ _ _ e0
  obtain ⟨q0, j0⟩ := h0
  simp only [List.cons.injEq, and_true] at q0
  subst q0
  obtain ⟨y1, h1, b1⟩ := opens_int Tryz.underlying3 _ _ _ e1
  obtain ⟨q1, j1⟩ := h1
  simp only [List.cons.injEq, and_true] at q1
  subst q1
  obtain ⟨y2, h2, b2⟩ := opens_int Tryz.underlying3 _ _ _ e2
  obtain ⟨q2, j2⟩ := h2
  simp only [List.cons.injEq, and_true] at q2
  subst q2
  obtain ⟨y3, h3, b3⟩ := opens_int Tryz.underlying3 _ _ _ e3
  obtain ⟨q3, j3⟩ := h3
  simp only [List.cons.injEq, and_true] at q3
  subst q3
  refine ⟨⟨y0, y1, y2, y3⟩, ⟨rfl, j0, j1, j2, j3⟩, ?_⟩
  simp only [PoolT.enc, List.length_append, List.length_nil, encI_length, bB_length, leB_length, Rows.uptoBulk, Rows.uptoBulkAll, List.map_cons, List.map_nil]
  simp only [List.length_append, List.length_nil, encI_length, bB_length, leB_length] at b0 b1 b2 b3
  skip
  omega

set_option maxRecDepth 100000 in
set_option maxHeartbeats 800000 in
theorem opens_Bucket : Opens enc Tryz.prog W 158 BucketT.Is (fun y => y.enc.length) := by
  intro fuel cs x h
  obtain ⟨xs, m, rfl, rfl, hl, hxl, hel⟩ := DataW.trod_struct Tryz.underlying158 h
  have hc : Tryz.prog.cellsOf 158 = 4 := by kernel_rfl
  rw [hc] at hl
  have hx : xs.length = 4 := hxl
  match cs, hl with
  | [c0, c1, c2, c3], _ =>
  match xs, hx with
  | [x0, x1, x2, x3], _ =>
  have e0 : DataW.trod enc Tryz.prog W 0 (fun _ => true) true m 3 (([c0, c1, c2, c3].drop 0).take (Tryz.prog.cellsOf 3)) = some x0 := hel 0 _ rfl
  rw [show Tryz.prog.cellsOf 3 = 1 by kernel_rfl] at e0
  replace e0 : DataW.trod enc Tryz.prog W 0 (fun _ => true) true m 3 [c0] = some x0 := e0
  have e1 : DataW.trod enc Tryz.prog W 0 (fun _ => true) true m 3 (([c0, c1, c2, c3].drop 1).take (Tryz.prog.cellsOf 3)) = some x1 := hel 1 _ rfl
  rw [show Tryz.prog.cellsOf 3 = 1 by kernel_rfl] at e1
  replace e1 : DataW.trod enc Tryz.prog W 0 (fun _ => true) true m 3 [c1] = some x1 := e1
  have e2 : DataW.trod enc Tryz.prog W 0 (fun _ => true) true m 156 (([c0, c1, c2, c3].drop 2).take (Tryz.prog.cellsOf 156)) = some x2 := hel 2 _ rfl
  rw [show Tryz.prog.cellsOf 156 = 1 by kernel_rfl] at e2
  replace e2 : DataW.trod enc Tryz.prog W 0 (fun _ => true) true m 156 [c2] = some x2 := e2
  have e3 : DataW.trod enc Tryz.prog W 0 (fun _ => true) true m 156 (([c0, c1, c2, c3].drop 3).take (Tryz.prog.cellsOf 156)) = some x3 := hel 3 _ rfl
  rw [show Tryz.prog.cellsOf 156 = 1 by kernel_rfl] at e3
  replace e3 : DataW.trod enc Tryz.prog W 0 (fun _ => true) true m 156 [c3] = some x3 := e3
  obtain ⟨y0, h0, b0⟩ := opens_int Tryz.underlying3 _ _ _ e0
  obtain ⟨q0, j0⟩ := h0
  simp only [List.cons.injEq, and_true] at q0
  subst q0
  obtain ⟨y1, h1, b1⟩ := opens_int Tryz.underlying3 _ _ _ e1
  obtain ⟨q1, j1⟩ := h1
  simp only [List.cons.injEq, and_true] at q1
  subst q1
  obtain ⟨y2, h2, b2⟩ := opens_list (size := 1) (f := encI) Tryz.underlying156 (by kernel_rfl) (by decide) (opens_encI Tryz.underlying3) _ _ _ e2
  obtain ⟨u2, q2, l2⟩ := h2
  simp only [List.cons.injEq, and_true] at q2
  subst q2
  obtain ⟨y3, h3, b3⟩ := opens_list (size := 1) (f := encI) Tryz.underlying156 (by kernel_rfl) (by decide) (opens_encI Tryz.underlying3) _ _ _ e3
  obtain ⟨u3, q3, l3⟩ := h3
  simp only [List.cons.injEq, and_true] at q3
  subst q3
  refine ⟨⟨y0, y1, y2, y3⟩, ⟨_, _, rfl, j0, j1, l2, l3⟩, ?_⟩
  simp only [BucketT.enc, List.length_append, List.length_nil, encI_length, bB_length, leB_length, Rows.uptoBulk, Rows.uptoBulkAll, List.map_cons, List.map_nil]
  simp only [List.length_append, List.length_nil, encI_length, bB_length, leB_length] at b0 b1 b2 b3
  skip
  omega

set_option maxRecDepth 100000 in
set_option maxHeartbeats 800000 in
theorem opens_Change : Opens enc Tryz.prog W 160 ChangeT.Is (fun y => y.enc.length) := by
  intro fuel cs x h
  obtain ⟨xs, m, rfl, rfl, hl, hxl, hel⟩ := DataW.trod_struct Tryz.underlying160 h
  have hc : Tryz.prog.cellsOf 160 = 11 := by kernel_rfl
  rw [hc] at hl
  have hx : xs.length = 5 := hxl
  match cs, hl with
  | [c0, c1, c2, c3, c4, c5, c6, c7, c8, c9, c10], _ =>
  match xs, hx with
  | [x0, x1, x2, x3, x4], _ =>
  have e0 : DataW.trod enc Tryz.prog W 0 (fun _ => true) true m 3 (([c0, c1, c2, c3, c4, c5, c6, c7, c8, c9, c10].drop 0).take (Tryz.prog.cellsOf 3)) = some x0 := hel 0 _ rfl
  rw [show Tryz.prog.cellsOf 3 = 1 by kernel_rfl] at e0
  replace e0 : DataW.trod enc Tryz.prog W 0 (fun _ => true) true m 3 [c0] = some x0 := e0
  have e1 : DataW.trod enc Tryz.prog W 0 (fun _ => true) true m 3 (([c0, c1, c2, c3, c4, c5, c6, c7, c8, c9, c10].drop 1).take (Tryz.prog.cellsOf 3)) = some x1 := hel 1 _ rfl
  rw [show Tryz.prog.cellsOf 3 = 1 by kernel_rfl] at e1
  replace e1 : DataW.trod enc Tryz.prog W 0 (fun _ => true) true m 3 [c1] = some x1 := e1
  have e2 : DataW.trod enc Tryz.prog W 0 (fun _ => true) true m 3 (([c0, c1, c2, c3, c4, c5, c6, c7, c8, c9, c10].drop 2).take (Tryz.prog.cellsOf 3)) = some x2 := hel 2 _ rfl
  rw [show Tryz.prog.cellsOf 3 = 1 by kernel_rfl] at e2
  replace e2 : DataW.trod enc Tryz.prog W 0 (fun _ => true) true m 3 [c2] = some x2 := e2
  have e3 : DataW.trod enc Tryz.prog W 0 (fun _ => true) true m 155 (([c0, c1, c2, c3, c4, c5, c6, c7, c8, c9, c10].drop 3).take (Tryz.prog.cellsOf 155)) = some x3 := hel 3 _ rfl
  rw [show Tryz.prog.cellsOf 155 = 4 by kernel_rfl] at e3
  replace e3 : DataW.trod enc Tryz.prog W 0 (fun _ => true) true m 155 [c3, c4, c5, c6] = some x3 := e3
  have e4 : DataW.trod enc Tryz.prog W 0 (fun _ => true) true m 158 (([c0, c1, c2, c3, c4, c5, c6, c7, c8, c9, c10].drop 7).take (Tryz.prog.cellsOf 158)) = some x4 := hel 4 _ rfl
  rw [show Tryz.prog.cellsOf 158 = 4 by kernel_rfl] at e4
  replace e4 : DataW.trod enc Tryz.prog W 0 (fun _ => true) true m 158 [c7, c8, c9, c10] = some x4 := e4
  obtain ⟨y0, h0, b0⟩ := opens_int Tryz.underlying3 _ _ _ e0
  obtain ⟨q0, j0⟩ := h0
  simp only [List.cons.injEq, and_true] at q0
  subst q0
  obtain ⟨y1, h1, b1⟩ := opens_int Tryz.underlying3 _ _ _ e1
  obtain ⟨q1, j1⟩ := h1
  simp only [List.cons.injEq, and_true] at q1
  subst q1
  obtain ⟨y2, h2, b2⟩ := opens_int Tryz.underlying3 _ _ _ e2
  obtain ⟨q2, j2⟩ := h2
  simp only [List.cons.injEq, and_true] at q2
  subst q2
  obtain ⟨y3, h3, b3⟩ := opens_Pool _ _ _ e3
  obtain ⟨q3, j3_0, j3_1, j3_2, j3_3⟩ := h3
  simp only [List.cons.injEq, and_true] at q3
  obtain ⟨rfl, rfl, rfl, rfl⟩ := q3
  obtain ⟨y4, h4, b4⟩ := opens_Bucket _ _ _ e4
  obtain ⟨u4_0, u4_1, q4, j4_0, j4_1, l4_0, l4_1⟩ := h4
  simp only [List.cons.injEq, and_true] at q4
  obtain ⟨rfl, rfl, rfl, rfl⟩ := q4
  refine ⟨⟨y0, y1, y2, y3, y4⟩, ⟨_, _, rfl, j0, j1, j2, j3_0, j3_1, j3_2, j3_3, j4_0, j4_1, l4_0, l4_1⟩, ?_⟩
  simp only [ChangeT.enc, List.length_append, List.length_nil, encI_length, bB_length, leB_length, Rows.uptoBulk, Rows.uptoBulkAll, List.map_cons, List.map_nil]
  simp only [BucketT.enc, PoolT.enc, List.length_append, List.length_nil, encI_length, bB_length, leB_length] at b0 b1 b2 b3 b4
  simp only [BucketT.enc, PoolT.enc, List.length_append, List.length_nil, encI_length, bB_length, leB_length]
  omega

set_option maxRecDepth 100000 in
set_option maxHeartbeats 800000 in
theorem opens_Map : Opens enc Tryz.prog W 70 MapT.Is (fun y => y.enc.length) := by
  intro fuel cs x h
  obtain ⟨xs, m, rfl, rfl, hl, hxl, hel⟩ := DataW.trod_struct Tryz.underlying70 h
  have hc : Tryz.prog.cellsOf 70 = 5 := by kernel_rfl
  rw [hc] at hl
  have hx : xs.length = 5 := hxl
  match cs, hl with
  | [c0, c1, c2, c3, c4], _ =>
  match xs, hx with
  | [x0, x1, x2, x3, x4], _ =>
  have e0 : DataW.trod enc Tryz.prog W 0 (fun _ => true) true m 3 (([c0, c1, c2, c3, c4].drop 0).take (Tryz.prog.cellsOf 3)) = some x0 := hel 0 _ rfl
  rw [show Tryz.prog.cellsOf 3 = 1 by kernel_rfl] at e0
  replace e0 : DataW.trod enc Tryz.prog W 0 (fun _ => true) true m 3 [c0] = some x0 := e0
  have e1 : DataW.trod enc Tryz.prog W 0 (fun _ => true) true m 66 (([c0, c1, c2, c3, c4].drop 1).take (Tryz.prog.cellsOf 66)) = some x1 := hel 1 _ rfl
  rw [show Tryz.prog.cellsOf 66 = 1 by kernel_rfl] at e1
  replace e1 : DataW.trod enc Tryz.prog W 0 (fun _ => true) true m 66 [c1] = some x1 := e1
  have e2 : DataW.trod enc Tryz.prog W 0 (fun _ => true) true m 67 (([c0, c1, c2, c3, c4].drop 2).take (Tryz.prog.cellsOf 67)) = some x2 := hel 2 _ rfl
  rw [show Tryz.prog.cellsOf 67 = 1 by kernel_rfl] at e2
  replace e2 : DataW.trod enc Tryz.prog W 0 (fun _ => true) true m 67 [c2] = some x2 := e2
  have e3 : DataW.trod enc Tryz.prog W 0 (fun _ => true) true m 68 (([c0, c1, c2, c3, c4].drop 3).take (Tryz.prog.cellsOf 68)) = some x3 := hel 3 _ rfl
  rw [show Tryz.prog.cellsOf 68 = 1 by kernel_rfl] at e3
  replace e3 : DataW.trod enc Tryz.prog W 0 (fun _ => true) true m 68 [c3] = some x3 := e3
  have e4 : DataW.trod enc Tryz.prog W 0 (fun _ => true) true m 3 (([c0, c1, c2, c3, c4].drop 4).take (Tryz.prog.cellsOf 3)) = some x4 := hel 4 _ rfl
  rw [show Tryz.prog.cellsOf 3 = 1 by kernel_rfl] at e4
  replace e4 : DataW.trod enc Tryz.prog W 0 (fun _ => true) true m 3 [c4] = some x4 := e4
  obtain ⟨y0, h0, b0⟩ := opens_int Tryz.underlying3 _ _ _ e0
  obtain ⟨q0, j0⟩ := h0
  simp only [List.cons.injEq, and_true] at q0
  subst q0
  obtain ⟨y1, h1, b1⟩ := opens_list (size := 6) (f := OsdT.enc) Tryz.underlying66 (by kernel_rfl) (by decide) opens_Osd _ _ _ e1
  obtain ⟨u1, q1, l1⟩ := h1
  simp only [List.cons.injEq, and_true] at q1
  subst q1
  obtain ⟨y2, h2, b2⟩ := opens_list (size := 4) (f := PoolT.enc) Tryz.underlying67 (by kernel_rfl) (by decide) opens_Pool _ _ _ e2
  obtain ⟨u2, q2, l2⟩ := h2
  simp only [List.cons.injEq, and_true] at q2
  subst q2
  obtain ⟨y3, h3, b3⟩ := opens_list (size := 4) (f := BucketT.enc) Tryz.underlying68 (by kernel_rfl) (by decide) opens_Bucket _ _ _ e3
  obtain ⟨u3, q3, l3⟩ := h3
  simp only [List.cons.injEq, and_true] at q3
  subst q3
  obtain ⟨y4, h4, b4⟩ := opens_int Tryz.underlying3 _ _ _ e4
  obtain ⟨q4, j4⟩ := h4
  simp only [List.cons.injEq, and_true] at q4
  subst q4
  refine ⟨⟨y0, y1, y2, y3, y4⟩, ⟨_, _, _, rfl, j0, j4, l1, l2, l3⟩, ?_⟩
  simp only [MapT.enc, List.length_append, List.length_nil, encI_length, bB_length, leB_length, Rows.uptoBulk, Rows.uptoBulkAll, List.map_cons, List.map_nil]
  simp only [List.length_append, List.length_nil, encI_length, bB_length, leB_length] at b0 b1 b2 b3 b4
  skip
  omega

set_option maxRecDepth 100000 in
set_option maxHeartbeats 800000 in
theorem opens_Inc : Opens enc Tryz.prog W 60 IncT.Is (fun y => y.enc.length) := by
  intro fuel cs x h
  obtain ⟨xs, m, rfl, rfl, hl, hxl, hel⟩ := DataW.trod_struct Tryz.underlying60 h
  have hc : Tryz.prog.cellsOf 60 = 2 := by kernel_rfl
  rw [hc] at hl
  have hx : xs.length = 2 := hxl
  match cs, hl with
  | [c0, c1], _ =>
  match xs, hx with
  | [x0, x1], _ =>
  have e0 : DataW.trod enc Tryz.prog W 0 (fun _ => true) true m 3 (([c0, c1].drop 0).take (Tryz.prog.cellsOf 3)) = some x0 := hel 0 _ rfl
  rw [show Tryz.prog.cellsOf 3 = 1 by kernel_rfl] at e0
  replace e0 : DataW.trod enc Tryz.prog W 0 (fun _ => true) true m 3 [c0] = some x0 := e0
  have e1 : DataW.trod enc Tryz.prog W 0 (fun _ => true) true m 28 (([c0, c1].drop 1).take (Tryz.prog.cellsOf 28)) = some x1 := hel 1 _ rfl
  rw [show Tryz.prog.cellsOf 28 = 1 by kernel_rfl] at e1
  replace e1 : DataW.trod enc Tryz.prog W 0 (fun _ => true) true m 28 [c1] = some x1 := e1
  obtain ⟨y0, h0, b0⟩ := opens_int Tryz.underlying3 _ _ _ e0
  obtain ⟨q0, j0⟩ := h0
  simp only [List.cons.injEq, and_true] at q0
  subst q0
  obtain ⟨y1, h1, b1⟩ := opens_list (size := 11) (f := ChangeT.enc) Tryz.underlying28 (by kernel_rfl) (by decide) opens_Change _ _ _ e1
  obtain ⟨u1, q1, l1⟩ := h1
  simp only [List.cons.injEq, and_true] at q1
  subst q1
  refine ⟨⟨y0, y1⟩, ⟨_, rfl, j0, l1⟩, ?_⟩
  simp only [IncT.enc, List.length_append, List.length_nil, encI_length, bB_length, leB_length, Rows.uptoBulk, Rows.uptoBulkAll, List.map_cons, List.map_nil]
  simp only [List.length_append, List.length_nil, encI_length, bB_length, leB_length] at b0 b1
  skip
  omega

end
end Go.Proofs.YtanmfldgillodaaGreat
