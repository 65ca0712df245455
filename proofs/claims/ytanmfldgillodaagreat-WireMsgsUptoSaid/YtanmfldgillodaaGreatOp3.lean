/- Opening the structs of the wire layer. -/
import Derived.Test.YtanmfldgillodaaGreatOp2
import Derived.Test.YtanmfldgillodaaGreatPr3
set_option linter.unusedSimpArgs false
set_option linter.unusedVariables false
namespace Go.Proofs.YtanmfldgillodaaGreat
open Go.RowKit Go.ChangeShapes Go.WideShapes Go.ChangeAt

section
variable {H : Type} {enc : TypeId × Value → H} {W : World}

set_option maxRecDepth 100000 in
set_option maxHeartbeats 800000 in
theorem opens_Node : Opens enc Tryz.prog W 23 NodeT.Is (fun y => y.enc.length) := by
  intro fuel cs x h
  obtain ⟨xs, m, rfl, rfl, hl, hxl, hel⟩ := DataW.trod_struct Tryz.underlying23 h
  have hc : Tryz.prog.cellsOf 23 = 2 := by kernel_rfl
  rw [hc] at hl
  have hx : xs.length = 2 := hxl
  match cs, hl with
  | c0 :: c1 :: [], _ =>
  match xs, hx with
  | x0 :: x1 :: [], _ =>
  have e0 : DataW.trod enc Tryz.prog W 0 (fun _ => true) true m 3 (([c0, c1].drop 0).take (Tryz.prog.cellsOf 3)) = some x0 := hel 0 _ rfl
  rw [show Tryz.prog.cellsOf 3 = 1 by kernel_rfl] at e0
  replace e0 : DataW.trod enc Tryz.prog W 0 (fun _ => true) true m 3 [c0] = some x0 := e0
  have e1 : DataW.trod enc Tryz.prog W 0 (fun _ => true) true m 3 (([c0, c1].drop 1).take (Tryz.prog.cellsOf 3)) = some x1 := hel 1 _ rfl
  rw [show Tryz.prog.cellsOf 3 = 1 by kernel_rfl] at e1
  replace e1 : DataW.trod enc Tryz.prog W 0 (fun _ => true) true m 3 [c1] = some x1 := e1
  obtain ⟨y0, h0, b0⟩ := opens_int Tryz.underlying3 _ _ _ e0
  obtain ⟨q0, j0⟩ := h0
  simp only [List.cons.injEq, and_true] at q0
  subst q0
  obtain ⟨y1, h1, b1⟩ := opens_int Tryz.underlying3 _ _ _ e1
  obtain ⟨q1, j1⟩ := h1
  simp only [List.cons.injEq, and_true] at q1
  subst q1
  refine ⟨⟨y0, y1⟩, ⟨rfl, j0, j1⟩, ?_⟩
  simp only [NodeT.enc, List.length_append, List.length_nil, encI_length, bB_length, leB_length, encT_length, encBy_length, Rows.uptoBulk, Rows.uptoBulkAll, List.map_cons, List.map_nil]
  simp only [List.length_append, List.length_nil, encI_length, bB_length, leB_length, encT_length, encBy_length] at b0 b1
  skip
  omega

set_option maxRecDepth 100000 in
set_option maxHeartbeats 800000 in
theorem opens_Slot : Opens enc Tryz.prog W 148 SlotT.Is (fun y => y.enc.length) := by
  intro fuel cs x h
  obtain ⟨xs, m, rfl, rfl, hl, hxl, hel⟩ := DataW.trod_struct Tryz.underlying148 h
  have hc : Tryz.prog.cellsOf 148 = 3 := by kernel_rfl
  rw [hc] at hl
  have hx : xs.length = 3 := hxl
  match cs, hl with
  | c0 :: c1 :: c2 :: [], _ =>
  match xs, hx with
  | x0 :: x1 :: x2 :: [], _ =>
  have e0 : DataW.trod enc Tryz.prog W 0 (fun _ => true) true m 3 (([c0, c1, c2].drop 0).take (Tryz.prog.cellsOf 3)) = some x0 := hel 0 _ rfl
  rw [show Tryz.prog.cellsOf 3 = 1 by kernel_rfl] at e0
  replace e0 : DataW.trod enc Tryz.prog W 0 (fun _ => true) true m 3 [c0] = some x0 := e0
  have e1 : DataW.trod enc Tryz.prog W 0 (fun _ => true) true m 3 (([c0, c1, c2].drop 1).take (Tryz.prog.cellsOf 3)) = some x1 := hel 1 _ rfl
  rw [show Tryz.prog.cellsOf 3 = 1 by kernel_rfl] at e1
  replace e1 : DataW.trod enc Tryz.prog W 0 (fun _ => true) true m 3 [c1] = some x1 := e1
  have e2 : DataW.trod enc Tryz.prog W 0 (fun _ => true) true m 41 (([c0, c1, c2].drop 2).take (Tryz.prog.cellsOf 41)) = some x2 := hel 2 _ rfl
  rw [show Tryz.prog.cellsOf 41 = 1 by kernel_rfl] at e2
  replace e2 : DataW.trod enc Tryz.prog W 0 (fun _ => true) true m 41 [c2] = some x2 := e2
  obtain ⟨y0, h0, b0⟩ := opens_int Tryz.underlying3 _ _ _ e0
  obtain ⟨q0, j0⟩ := h0
  simp only [List.cons.injEq, and_true] at q0
  subst q0
  obtain ⟨y1, h1, b1⟩ := opens_int Tryz.underlying3 _ _ _ e1
  obtain ⟨q1, j1⟩ := h1
  simp only [List.cons.injEq, and_true] at q1
  subst q1
  obtain ⟨y2, h2, b2⟩ := opens_bytes Tryz.underlying41 Tryz.underlying5 (by kernel_rfl) _ _ _ e2
  obtain ⟨u2, q2, l2⟩ := h2
  simp only [List.cons.injEq, and_true] at q2
  subst q2
  refine ⟨⟨y0, y1, y2⟩, ⟨_, rfl, j0, j1, l2⟩, ?_⟩
  simp only [SlotT.enc, List.length_append, List.length_nil, encI_length, bB_length, leB_length, encT_length, encBy_length, Rows.uptoBulk, Rows.uptoBulkAll, List.map_cons, List.map_nil]
  simp only [List.length_append, List.length_nil, encI_length, bB_length, leB_length, encT_length, encBy_length] at b0 b1 b2
  skip
  omega

set_option maxRecDepth 100000 in
set_option maxHeartbeats 800000 in
theorem opens_Object : Opens enc Tryz.prog W 43 ObjectT.Is (fun y => y.enc.length) := by
  intro fuel cs x h
  obtain ⟨xs, m, rfl, rfl, hl, hxl, hel⟩ := DataW.trod_struct Tryz.underlying43 h
  have hc : Tryz.prog.cellsOf 43 = 4 := by kernel_rfl
  rw [hc] at hl
  have hx : xs.length = 3 := hxl
  match cs, hl with
  | c0 :: c1 :: c2 :: c3 :: [], _ =>
  match xs, hx with
  | x0 :: x1 :: x2 :: [], _ =>
  have e0 : DataW.trod enc Tryz.prog W 0 (fun _ => true) true m 9 (([c0, c1, c2, c3].drop 0).take (Tryz.prog.cellsOf 9)) = some x0 := hel 0 _ rfl
  rw [show Tryz.prog.cellsOf 9 = 1 by kernel_rfl] at e0
  replace e0 : DataW.trod enc Tryz.prog W 0 (fun _ => true) true m 9 [c0] = some x0 := e0
  have e1 : DataW.trod enc Tryz.prog W 0 (fun _ => true) true m 30 (([c0, c1, c2, c3].drop 1).take (Tryz.prog.cellsOf 30)) = some x1 := hel 1 _ rfl
  rw [show Tryz.prog.cellsOf 30 = 2 by kernel_rfl] at e1
  replace e1 : DataW.trod enc Tryz.prog W 0 (fun _ => true) true m 30 [c1, c2] = some x1 := e1
  have e2 : DataW.trod enc Tryz.prog W 0 (fun _ => true) true m 41 (([c0, c1, c2, c3].drop 3).take (Tryz.prog.cellsOf 41)) = some x2 := hel 2 _ rfl
  rw [show Tryz.prog.cellsOf 41 = 1 by kernel_rfl] at e2
  replace e2 : DataW.trod enc Tryz.prog W 0 (fun _ => true) true m 41 [c3] = some x2 := e2
  obtain ⟨y0, h0, b0⟩ := opens_text Tryz.underlying9 _ _ _ e0
  unfold textIs at h0
  simp only [List.cons.injEq, and_true] at h0
  subst h0
  obtain ⟨y1, h1, b1⟩ := opens_Version _ _ _ e1
  obtain ⟨q1, j1_0, j1_1⟩ := h1
  simp only [List.cons.injEq, and_true] at q1
  obtain ⟨rfl, rfl⟩ := q1
  obtain ⟨y2, h2, b2⟩ := opens_bytes Tryz.underlying41 Tryz.underlying5 (by kernel_rfl) _ _ _ e2
  obtain ⟨u2, q2, l2⟩ := h2
  simp only [List.cons.injEq, and_true] at q2
  subst q2
  refine ⟨⟨y0, y1, y2⟩, ⟨_, rfl, j1_0, j1_1, l2⟩, ?_⟩
  simp only [ObjectT.enc, List.length_append, List.length_nil, encI_length, bB_length, leB_length, encT_length, encBy_length, Rows.uptoBulk, Rows.uptoBulkAll, List.map_cons, List.map_nil]
  simp only [VersionT.enc, List.length_append, List.length_nil, encI_length, bB_length, leB_length, encT_length, encBy_length] at b0 b1 b2
  simp only [VersionT.enc, List.length_append, List.length_nil, encI_length, bB_length, leB_length, encT_length, encBy_length]
  omega

set_option maxRecDepth 100000 in
set_option maxHeartbeats 800000 in
theorem opens_Info : Opens enc Tryz.prog W 32 InfoT.Is (fun y => y.enc.length) := by
  intro fuel cs x h
  obtain ⟨xs, m, rfl, rfl, hl, hxl, hel⟩ := DataW.trod_struct Tryz.underlying32 h
  have hc : Tryz.prog.cellsOf 32 = 6 := by kernel_rfl
  rw [hc] at hl
  have hx : xs.length = 4 := hxl
  match cs, hl with
  | c0 :: c1 :: c2 :: c3 :: c4 :: c5 :: [], _ =>
  match xs, hx with
  | x0 :: x1 :: x2 :: x3 :: [], _ =>
  have e0 : DataW.trod enc Tryz.prog W 0 (fun _ => true) true m 3 (([c0, c1, c2, c3, c4, c5].drop 0).take (Tryz.prog.cellsOf 3)) = some x0 := hel 0 _ rfl
  rw [show Tryz.prog.cellsOf 3 = 1 by kernel_rfl] at e0
  replace e0 : DataW.trod enc Tryz.prog W 0 (fun _ => true) true m 3 [c0] = some x0 := e0
  have e1 : DataW.trod enc Tryz.prog W 0 (fun _ => true) true m 30 (([c0, c1, c2, c3, c4, c5].drop 1).take (Tryz.prog.cellsOf 30)) = some x1 := hel 1 _ rfl
  rw [show Tryz.prog.cellsOf 30 = 2 by kernel_rfl] at e1
  replace e1 : DataW.trod enc Tryz.prog W 0 (fun _ => true) true m 30 [c1, c2] = some x1 := e1
  have e2 : DataW.trod enc Tryz.prog W 0 (fun _ => true) true m 30 (([c0, c1, c2, c3, c4, c5].drop 3).take (Tryz.prog.cellsOf 30)) = some x2 := hel 2 _ rfl
  rw [show Tryz.prog.cellsOf 30 = 2 by kernel_rfl] at e2
  replace e2 : DataW.trod enc Tryz.prog W 0 (fun _ => true) true m 30 [c3, c4] = some x2 := e2
  have e3 : DataW.trod enc Tryz.prog W 0 (fun _ => true) true m 3 (([c0, c1, c2, c3, c4, c5].drop 5).take (Tryz.prog.cellsOf 3)) = some x3 := hel 3 _ rfl
  rw [show Tryz.prog.cellsOf 3 = 1 by kernel_rfl] at e3
  replace e3 : DataW.trod enc Tryz.prog W 0 (fun _ => true) true m 3 [c5] = some x3 := e3
  obtain ⟨y0, h0, b0⟩ := opens_int Tryz.underlying3 _ _ _ e0
  obtain ⟨q0, j0⟩ := h0
  simp only [List.cons.injEq, and_true] at q0
  subst q0
  obtain ⟨y1, h1, b1⟩ := opens_Version _ _ _ e1
  obtain ⟨q1, j1_0, j1_1⟩ := h1
  simp only [List.cons.injEq, and_true] at q1
  obtain ⟨rfl, rfl⟩ := q1
  obtain ⟨y2, h2, b2⟩ := opens_Version _ _ _ e2
  obtain ⟨q2, j2_0, j2_1⟩ := h2
  simp only [List.cons.injEq, and_true] at q2
  obtain ⟨rfl, rfl⟩ := q2
  obtain ⟨y3, h3, b3⟩ := opens_int Tryz.underlying3 _ _ _ e3
  obtain ⟨q3, j3⟩ := h3
  simp only [List.cons.injEq, and_true] at q3
  subst q3
  refine ⟨⟨y0, y1, y2, y3⟩, ⟨rfl, j0, j1_0, j1_1, j2_0, j2_1, j3⟩, ?_⟩
  simp only [InfoT.enc, List.length_append, List.length_nil, encI_length, bB_length, leB_length, encT_length, encBy_length, Rows.uptoBulk, Rows.uptoBulkAll, List.map_cons, List.map_nil]
  simp only [VersionT.enc, List.length_append, List.length_nil, encI_length, bB_length, leB_length, encT_length, encBy_length] at b0 b1 b2 b3
  simp only [VersionT.enc, List.length_append, List.length_nil, encI_length, bB_length, leB_length, encT_length, encBy_length]
  omega

set_option maxRecDepth 100000 in
set_option maxHeartbeats 800000 in
theorem opens_Op : Opens enc Tryz.prog W 45 OpT.Is (fun y => y.enc.length) := by
  intro fuel cs x h
  obtain ⟨xs, m, rfl, rfl, hl, hxl, hel⟩ := DataW.trod_struct Tryz.underlying45 h
  have hc : Tryz.prog.cellsOf 45 = 5 := by kernel_rfl
  rw [hc] at hl
  have hx : xs.length = 4 := hxl
  match cs, hl with
  | c0 :: c1 :: c2 :: c3 :: c4 :: [], _ =>
  match xs, hx with
  | x0 :: x1 :: x2 :: x3 :: [], _ =>
  have e0 : DataW.trod enc Tryz.prog W 0 (fun _ => true) true m 3 (([c0, c1, c2, c3, c4].drop 0).take (Tryz.prog.cellsOf 3)) = some x0 := hel 0 _ rfl
  rw [show Tryz.prog.cellsOf 3 = 1 by kernel_rfl] at e0
  replace e0 : DataW.trod enc Tryz.prog W 0 (fun _ => true) true m 3 [c0] = some x0 := e0
  have e1 : DataW.trod enc Tryz.prog W 0 (fun _ => true) true m 9 (([c0, c1, c2, c3, c4].drop 1).take (Tryz.prog.cellsOf 9)) = some x1 := hel 1 _ rfl
  rw [show Tryz.prog.cellsOf 9 = 1 by kernel_rfl] at e1
  replace e1 : DataW.trod enc Tryz.prog W 0 (fun _ => true) true m 9 [c1] = some x1 := e1
  have e2 : DataW.trod enc Tryz.prog W 0 (fun _ => true) true m 41 (([c0, c1, c2, c3, c4].drop 2).take (Tryz.prog.cellsOf 41)) = some x2 := hel 2 _ rfl
  rw [show Tryz.prog.cellsOf 41 = 1 by kernel_rfl] at e2
  replace e2 : DataW.trod enc Tryz.prog W 0 (fun _ => true) true m 41 [c2] = some x2 := e2
  have e3 : DataW.trod enc Tryz.prog W 0 (fun _ => true) true m 30 (([c0, c1, c2, c3, c4].drop 3).take (Tryz.prog.cellsOf 30)) = some x3 := hel 3 _ rfl
  rw [show Tryz.prog.cellsOf 30 = 2 by kernel_rfl] at e3
  replace e3 : DataW.trod enc Tryz.prog W 0 (fun _ => true) true m 30 [c3, c4] = some x3 := e3
  obtain ⟨y0, h0, b0⟩ := opens_int Tryz.underlying3 _ _ _ e0
  obtain ⟨q0, j0⟩ := h0
  simp only [List.cons.injEq, and_true] at q0
  subst q0
  obtain ⟨y1, h1, b1⟩ := opens_text Tryz.underlying9 _ _ _ e1
  unfold textIs at h1
  simp only [List.cons.injEq, and_true] at h1
  subst h1
  obtain ⟨y2, h2, b2⟩ := opens_bytes Tryz.underlying41 Tryz.underlying5 (by kernel_rfl) _ _ _ e2
  obtain ⟨u2, q2, l2⟩ := h2
  simp only [List.cons.injEq, and_true] at q2
  subst q2
  obtain ⟨y3, h3, b3⟩ := opens_Version _ _ _ e3
  obtain ⟨q3, j3_0, j3_1⟩ := h3
  simp only [List.cons.injEq, and_true] at q3
  obtain ⟨rfl, rfl⟩ := q3
  refine ⟨⟨y0, y1, y2, y3⟩, ⟨_, rfl, j0, j3_0, j3_1, l2⟩, ?_⟩
  simp only [OpT.enc, List.length_append, List.length_nil, encI_length, bB_length, leB_length, encT_length, encBy_length, Rows.uptoBulk, Rows.uptoBulkAll, List.map_cons, List.map_nil]
  simp only [VersionT.enc, List.length_append, List.length_nil, encI_length, bB_length, leB_length, encT_length, encBy_length] at b0 b1 b2 b3
  simp only [VersionT.enc, List.length_append, List.length_nil, encI_length, bB_length, leB_length, encT_length, encBy_length]
  omega

set_option maxRecDepth 100000 in
set_option maxHeartbeats 800000 in
theorem opens_Msg : Opens enc Tryz.prog W 48 MsgT.Is (fun y => y.enc.length) := by
  intro fuel cs x h
  obtain ⟨xs, m, rfl, rfl, hl, hxl, hel⟩ := DataW.trod_struct Tryz.underlying48 h
  have hc : Tryz.prog.cellsOf 48 = 46 := by kernel_rfl
  rw [hc] at hl
  have hx : xs.length = 20 := hxl
  match cs, hl with
  | c0 :: c1 :: c2 :: c3 :: c4 :: c5 :: c6 :: c7 :: c8 :: c9 :: c10 :: c11 :: c12 :: c13 :: c14 :: c15 :: c16 :: c17 :: c18 :: c19 :: c20 :: c21 :: c22 :: c23 :: c24 :: c25 :: c26 :: c27 :: c28 :: c29 :: c30 :: c31 :: c32 :: c33 :: c34 :: c35 :: c36 :: c37 :: c38 :: c39 :: c40 :: c41 :: c42 :: c43 :: c44 :: c45 :: [], _ =>
  match xs, hx with
  | x0 :: x1 :: x2 :: x3 :: x4 :: x5 :: x6 :: x7 :: x8 :: x9 :: x10 :: x11 :: x12 :: x13 :: x14 :: x15 :: x16 :: x17 :: x18 :: x19 :: [], _ =>
  have e0 : DataW.trod enc Tryz.prog W 0 (fun _ => true) true m 3 (([c0, c1, c2, c3, c4, c5, c6, c7, c8, c9, c10, c11, c12, c13, c14, c15, c16, c17, c18, c19, c20, c21, c22, c23, c24, c25, c26, c27, c28, c29, c30, c31, c32, c33, c34, c35, c36, c37, c38, c39, c40, c41, c42, c43, c44, c45].drop 0).take (Tryz.prog.cellsOf 3)) = some x0 := hel 0 _ rfl
  rw [show Tryz.prog.cellsOf 3 = 1 by kernel_rfl] at e0
  replace e0 : DataW.trod enc Tryz.prog W 0 (fun _ => true) true m 3 [c0] = some x0 := e0
  have e1 : DataW.trod enc Tryz.prog W 0 (fun _ => true) true m 23 (([c0, c1, c2, c3, c4, c5, c6, c7, c8, c9, c10, c11, c12, c13, c14, c15, c16, c17, c18, c19, c20, c21, c22, c23, c24, c25, c26, c27, c28, c29, c30, c31, c32, c33, c34, c35, c36, c37, c38, c39, c40, c41, c42, c43, c44, c45].drop 1).take (Tryz.prog.cellsOf 23)) = some x1 := hel 1 _ rfl
  rw [show Tryz.prog.cellsOf 23 = 2 by kernel_rfl] at e1
  replace e1 : DataW.trod enc Tryz.prog W 0 (fun _ => true) true m 23 [c1, c2] = some x1 := e1
  have e2 : DataW.trod enc Tryz.prog W 0 (fun _ => true) true m 23 (([c0, c1, c2, c3, c4, c5, c6, c7, c8, c9, c10, c11, c12, c13, c14, c15, c16, c17, c18, c19, c20, c21, c22, c23, c24, c25, c26, c27, c28, c29, c30, c31, c32, c33, c34, c35, c36, c37, c38, c39, c40, c41, c42, c43, c44, c45].drop 3).take (Tryz.prog.cellsOf 23)) = some x2 := hel 2 _ rfl
  rw [show Tryz.prog.cellsOf 23 = 2 by kernel_rfl] at e2
  replace e2 : DataW.trod enc Tryz.prog W 0 (fun _ => true) true m 23 [c3, c4] = some x2 := e2
  have e3 : DataW.trod enc Tryz.prog W 0 (fun _ => true) true m 3 (([c0, c1, c2, c3, c4, c5, c6, c7, c8, c9, c10, c11, c12, c13, c14, c15, c16, c17, c18, c19, c20, c21, c22, c23, c24, c25, c26, c27, c28, c29, c30, c31, c32, c33, c34, c35, c36, c37, c38, c39, c40, c41, c42, c43, c44, c45].drop 5).take (Tryz.prog.cellsOf 3)) = some x3 := hel 3 _ rfl
  rw [show Tryz.prog.cellsOf 3 = 1 by kernel_rfl] at e3
  replace e3 : DataW.trod enc Tryz.prog W 0 (fun _ => true) true m 3 [c5] = some x3 := e3
  have e4 : DataW.trod enc Tryz.prog W 0 (fun _ => true) true m 3 (([c0, c1, c2, c3, c4, c5, c6, c7, c8, c9, c10, c11, c12, c13, c14, c15, c16, c17, c18, c19, c20, c21, c22, c23, c24, c25, c26, c27, c28, c29, c30, c31, c32, c33, c34, c35, c36, c37, c38, c39, c40, c41, c42, c43, c44, c45].drop 6).take (Tryz.prog.cellsOf 3)) = some x4 := hel 4 _ rfl
  rw [show Tryz.prog.cellsOf 3 = 1 by kernel_rfl] at e4
  replace e4 : DataW.trod enc Tryz.prog W 0 (fun _ => true) true m 3 [c6] = some x4 := e4
  have e5 : DataW.trod enc Tryz.prog W 0 (fun _ => true) true m 25 (([c0, c1, c2, c3, c4, c5, c6, c7, c8, c9, c10, c11, c12, c13, c14, c15, c16, c17, c18, c19, c20, c21, c22, c23, c24, c25, c26, c27, c28, c29, c30, c31, c32, c33, c34, c35, c36, c37, c38, c39, c40, c41, c42, c43, c44, c45].drop 7).take (Tryz.prog.cellsOf 25)) = some x5 := hel 5 _ rfl
  rw [show Tryz.prog.cellsOf 25 = 2 by kernel_rfl] at e5
  replace e5 : DataW.trod enc Tryz.prog W 0 (fun _ => true) true m 25 [c7, c8] = some x5 := e5
  have e6 : DataW.trod enc Tryz.prog W 0 (fun _ => true) true m 3 (([c0, c1, c2, c3, c4, c5, c6, c7, c8, c9, c10, c11, c12, c13, c14, c15, c16, c17, c18, c19, c20, c21, c22, c23, c24, c25, c26, c27, c28, c29, c30, c31, c32, c33, c34, c35, c36, c37, c38, c39, c40, c41, c42, c43, c44, c45].drop 9).take (Tryz.prog.cellsOf 3)) = some x6 := hel 6 _ rfl
  rw [show Tryz.prog.cellsOf 3 = 1 by kernel_rfl] at e6
  replace e6 : DataW.trod enc Tryz.prog W 0 (fun _ => true) true m 3 [c9] = some x6 := e6
  have e7 : DataW.trod enc Tryz.prog W 0 (fun _ => true) true m 3 (([c0, c1, c2, c3, c4, c5, c6, c7, c8, c9, c10, c11, c12, c13, c14, c15, c16, c17, c18, c19, c20, c21, c22, c23, c24, c25, c26, c27, c28, c29, c30, c31, c32, c33, c34, c35, c36, c37, c38, c39, c40, c41, c42, c43, c44, c45].drop 10).take (Tryz.prog.cellsOf 3)) = some x7 := hel 7 _ rfl
  rw [show Tryz.prog.cellsOf 3 = 1 by kernel_rfl] at e7
  replace e7 : DataW.trod enc Tryz.prog W 0 (fun _ => true) true m 3 [c10] = some x7 := e7
  have e8 : DataW.trod enc Tryz.prog W 0 (fun _ => true) true m 3 (([c0, c1, c2, c3, c4, c5, c6, c7, c8, c9, c10, c11, c12, c13, c14, c15, c16, c17, c18, c19, c20, c21, c22, c23, c24, c25, c26, c27, c28, c29, c30, c31, c32, c33, c34, c35, c36, c37, c38, c39, c40, c41, c42, c43, c44, c45].drop 11).take (Tryz.prog.cellsOf 3)) = some x8 := hel 8 _ rfl
  rw [show Tryz.prog.cellsOf 3 = 1 by kernel_rfl] at e8
  replace e8 : DataW.trod enc Tryz.prog W 0 (fun _ => true) true m 3 [c11] = some x8 := e8
  have e9 : DataW.trod enc Tryz.prog W 0 (fun _ => true) true m 26 (([c0, c1, c2, c3, c4, c5, c6, c7, c8, c9, c10, c11, c12, c13, c14, c15, c16, c17, c18, c19, c20, c21, c22, c23, c24, c25, c26, c27, c28, c29, c30, c31, c32, c33, c34, c35, c36, c37, c38, c39, c40, c41, c42, c43, c44, c45].drop 12).take (Tryz.prog.cellsOf 26)) = some x9 := hel 9 _ rfl
  rw [show Tryz.prog.cellsOf 26 = 1 by kernel_rfl] at e9
  replace e9 : DataW.trod enc Tryz.prog W 0 (fun _ => true) true m 26 [c12] = some x9 := e9
  have e10 : DataW.trod enc Tryz.prog W 0 (fun _ => true) true m 27 (([c0, c1, c2, c3, c4, c5, c6, c7, c8, c9, c10, c11, c12, c13, c14, c15, c16, c17, c18, c19, c20, c21, c22, c23, c24, c25, c26, c27, c28, c29, c30, c31, c32, c33, c34, c35, c36, c37, c38, c39, c40, c41, c42, c43, c44, c45].drop 13).take (Tryz.prog.cellsOf 27)) = some x10 := hel 10 _ rfl
  rw [show Tryz.prog.cellsOf 27 = 1 by kernel_rfl] at e10
  replace e10 : DataW.trod enc Tryz.prog W 0 (fun _ => true) true m 27 [c13] = some x10 := e10
  have e11 : DataW.trod enc Tryz.prog W 0 (fun _ => true) true m 28 (([c0, c1, c2, c3, c4, c5, c6, c7, c8, c9, c10, c11, c12, c13, c14, c15, c16, c17, c18, c19, c20, c21, c22, c23, c24, c25, c26, c27, c28, c29, c30, c31, c32, c33, c34, c35, c36, c37, c38, c39, c40, c41, c42, c43, c44, c45].drop 14).take (Tryz.prog.cellsOf 28)) = some x11 := hel 11 _ rfl
  rw [show Tryz.prog.cellsOf 28 = 1 by kernel_rfl] at e11
  replace e11 : DataW.trod enc Tryz.prog W 0 (fun _ => true) true m 28 [c14] = some x11 := e11
  have e12 : DataW.trod enc Tryz.prog W 0 (fun _ => true) true m 32 (([c0, c1, c2, c3, c4, c5, c6, c7, c8, c9, c10, c11, c12, c13, c14, c15, c16, c17, c18, c19, c20, c21, c22, c23, c24, c25, c26, c27, c28, c29, c30, c31, c32, c33, c34, c35, c36, c37, c38, c39, c40, c41, c42, c43, c44, c45].drop 15).take (Tryz.prog.cellsOf 32)) = some x12 := hel 12 _ rfl
  rw [show Tryz.prog.cellsOf 32 = 6 by kernel_rfl] at e12
  replace e12 : DataW.trod enc Tryz.prog W 0 (fun _ => true) true m 32 [c15, c16, c17, c18, c19, c20] = some x12 := e12
  have e13 : DataW.trod enc Tryz.prog W 0 (fun _ => true) true m 37 (([c0, c1, c2, c3, c4, c5, c6, c7, c8, c9, c10, c11, c12, c13, c14, c15, c16, c17, c18, c19, c20, c21, c22, c23, c24, c25, c26, c27, c28, c29, c30, c31, c32, c33, c34, c35, c36, c37, c38, c39, c40, c41, c42, c43, c44, c45].drop 21).take (Tryz.prog.cellsOf 37)) = some x13 := hel 13 _ rfl
  rw [show Tryz.prog.cellsOf 37 = 6 by kernel_rfl] at e13
  replace e13 : DataW.trod enc Tryz.prog W 0 (fun _ => true) true m 37 [c21, c22, c23, c24, c25, c26] = some x13 := e13
  have e14 : DataW.trod enc Tryz.prog W 0 (fun _ => true) true m 40 (([c0, c1, c2, c3, c4, c5, c6, c7, c8, c9, c10, c11, c12, c13, c14, c15, c16, c17, c18, c19, c20, c21, c22, c23, c24, c25, c26, c27, c28, c29, c30, c31, c32, c33, c34, c35, c36, c37, c38, c39, c40, c41, c42, c43, c44, c45].drop 27).take (Tryz.prog.cellsOf 40)) = some x14 := hel 14 _ rfl
  rw [show Tryz.prog.cellsOf 40 = 7 by kernel_rfl] at e14
  replace e14 : DataW.trod enc Tryz.prog W 0 (fun _ => true) true m 40 [c27, c28, c29, c30, c31, c32, c33] = some x14 := e14
  have e15 : DataW.trod enc Tryz.prog W 0 (fun _ => true) true m 43 (([c0, c1, c2, c3, c4, c5, c6, c7, c8, c9, c10, c11, c12, c13, c14, c15, c16, c17, c18, c19, c20, c21, c22, c23, c24, c25, c26, c27, c28, c29, c30, c31, c32, c33, c34, c35, c36, c37, c38, c39, c40, c41, c42, c43, c44, c45].drop 34).take (Tryz.prog.cellsOf 43)) = some x15 := hel 15 _ rfl
  rw [show Tryz.prog.cellsOf 43 = 4 by kernel_rfl] at e15
  replace e15 : DataW.trod enc Tryz.prog W 0 (fun _ => true) true m 43 [c34, c35, c36, c37] = some x15 := e15
  have e16 : DataW.trod enc Tryz.prog W 0 (fun _ => true) true m 45 (([c0, c1, c2, c3, c4, c5, c6, c7, c8, c9, c10, c11, c12, c13, c14, c15, c16, c17, c18, c19, c20, c21, c22, c23, c24, c25, c26, c27, c28, c29, c30, c31, c32, c33, c34, c35, c36, c37, c38, c39, c40, c41, c42, c43, c44, c45].drop 38).take (Tryz.prog.cellsOf 45)) = some x16 := hel 16 _ rfl
  rw [show Tryz.prog.cellsOf 45 = 5 by kernel_rfl] at e16
  replace e16 : DataW.trod enc Tryz.prog W 0 (fun _ => true) true m 45 [c38, c39, c40, c41, c42] = some x16 := e16
  have e17 : DataW.trod enc Tryz.prog W 0 (fun _ => true) true m 35 (([c0, c1, c2, c3, c4, c5, c6, c7, c8, c9, c10, c11, c12, c13, c14, c15, c16, c17, c18, c19, c20, c21, c22, c23, c24, c25, c26, c27, c28, c29, c30, c31, c32, c33, c34, c35, c36, c37, c38, c39, c40, c41, c42, c43, c44, c45].drop 43).take (Tryz.prog.cellsOf 35)) = some x17 := hel 17 _ rfl
  rw [show Tryz.prog.cellsOf 35 = 1 by kernel_rfl] at e17
  replace e17 : DataW.trod enc Tryz.prog W 0 (fun _ => true) true m 35 [c43] = some x17 := e17
  have e18 : DataW.trod enc Tryz.prog W 0 (fun _ => true) true m 46 (([c0, c1, c2, c3, c4, c5, c6, c7, c8, c9, c10, c11, c12, c13, c14, c15, c16, c17, c18, c19, c20, c21, c22, c23, c24, c25, c26, c27, c28, c29, c30, c31, c32, c33, c34, c35, c36, c37, c38, c39, c40, c41, c42, c43, c44, c45].drop 44).take (Tryz.prog.cellsOf 46)) = some x18 := hel 18 _ rfl
  rw [show Tryz.prog.cellsOf 46 = 1 by kernel_rfl] at e18
  replace e18 : DataW.trod enc Tryz.prog W 0 (fun _ => true) true m 46 [c44] = some x18 := e18
  have e19 : DataW.trod enc Tryz.prog W 0 (fun _ => true) true m 38 (([c0, c1, c2, c3, c4, c5, c6, c7, c8, c9, c10, c11, c12, c13, c14, c15, c16, c17, c18, c19, c20, c21, c22, c23, c24, c25, c26, c27, c28, c29, c30, c31, c32, c33, c34, c35, c36, c37, c38, c39, c40, c41, c42, c43, c44, c45].drop 45).take (Tryz.prog.cellsOf 38)) = some x19 := hel 19 _ rfl
  rw [show Tryz.prog.cellsOf 38 = 1 by kernel_rfl] at e19
  replace e19 : DataW.trod enc Tryz.prog W 0 (fun _ => true) true m 38 [c45] = some x19 := e19
  obtain ⟨y0, h0, b0⟩ := opens_int Tryz.underlying3 _ _ _ e0
  obtain ⟨q0, j0⟩ := h0
  simp only [List.cons.injEq, and_true] at q0
  subst q0
  obtain ⟨y1, h1, b1⟩ := opens_Node _ _ _ e1
  obtain ⟨q1, j1_0, j1_1⟩ := h1
  simp only [List.cons.injEq, and_true] at q1
  obtain ⟨rfl, rfl⟩ := q1
  obtain ⟨y2, h2, b2⟩ := opens_Node _ _ _ e2
  obtain ⟨q2, j2_0, j2_1⟩ := h2
  simp only [List.cons.injEq, and_true] at q2
  obtain ⟨rfl, rfl⟩ := q2
  obtain ⟨y3, h3, b3⟩ := opens_int Tryz.underlying3 _ _ _ e3
  obtain ⟨q3, j3⟩ := h3
  simp only [List.cons.injEq, and_true] at q3
  subst q3
  obtain ⟨y4, h4, b4⟩ := opens_int Tryz.underlying3 _ _ _ e4
  obtain ⟨q4, j4⟩ := h4
  simp only [List.cons.injEq, and_true] at q4
  subst q4
  obtain ⟨y5, h5, b5⟩ := opens_Pg _ _ _ e5
  obtain ⟨q5, j5_0, j5_1⟩ := h5
  simp only [List.cons.injEq, and_true] at q5
  obtain ⟨rfl, rfl⟩ := q5
  obtain ⟨y6, h6, b6⟩ := opens_int Tryz.underlying3 _ _ _ e6
  obtain ⟨q6, j6⟩ := h6
  simp only [List.cons.injEq, and_true] at q6
  subst q6
  obtain ⟨y7, h7, b7⟩ := opens_int Tryz.underlying3 _ _ _ e7
  obtain ⟨q7, j7⟩ := h7
  simp only [List.cons.injEq, and_true] at q7
  subst q7
  obtain ⟨y8, h8, b8⟩ := opens_int Tryz.underlying3 _ _ _ e8
  obtain ⟨q8, j8⟩ := h8
  simp only [List.cons.injEq, and_true] at q8
  subst q8
  obtain ⟨y9, h9, b9⟩ := opens_list (size := 3) (f := SlotT.enc) Tryz.underlying26 (by kernel_rfl) (by decide) opens_Slot _ _ _ e9
  obtain ⟨u9, q9, l9⟩ := h9
  simp only [List.cons.injEq, and_true] at q9
  subst q9
  obtain ⟨y10, h10, b10⟩ := opens_list (size := 2) (f := IncT.enc) Tryz.underlying27 (by kernel_rfl) (by decide) opens_Inc _ _ _ e10
  obtain ⟨u10, q10, l10⟩ := h10
  simp only [List.cons.injEq, and_true] at q10
  subst q10
  obtain ⟨y11, h11, b11⟩ := opens_list (size := 11) (f := ChangeT.enc) Tryz.underlying28 (by kernel_rfl) (by decide) opens_Change _ _ _ e11
  obtain ⟨u11, q11, l11⟩ := h11
  simp only [List.cons.injEq, and_true] at q11
  subst q11
  obtain ⟨y12, h12, b12⟩ := opens_Info _ _ _ e12
  obtain ⟨q12, j12_0, j12_1, j12_2, j12_3, j12_4, j12_5⟩ := h12
  simp only [List.cons.injEq, and_true] at q12
  obtain ⟨rfl, rfl, rfl, rfl, rfl, rfl⟩ := q12
  obtain ⟨y13, h13, b13⟩ := opens_State _ _ _ e13
  obtain ⟨u13_0, u13_1, u13_2, q13, j13_0, j13_1, j13_2, l13_0, l13_1, l13_2⟩ := h13
  simp only [List.cons.injEq, and_true] at q13
  obtain ⟨rfl, rfl, rfl, rfl, rfl, rfl⟩ := q13
  obtain ⟨y14, h14, b14⟩ := opens_Entry _ _ _ e14
  obtain ⟨q14, j14_0, j14_1, j14_2, j14_3, j14_4⟩ := h14
  simp only [List.cons.injEq, and_true] at q14
  obtain ⟨rfl, rfl, rfl, rfl, rfl, rfl, rfl⟩ := q14
  obtain ⟨y15, h15, b15⟩ := opens_Object _ _ _ e15
  obtain ⟨u15_0, q15, j15_0, j15_1, l15_0⟩ := h15
  simp only [List.cons.injEq, and_true] at q15
  obtain ⟨rfl, rfl, rfl, rfl⟩ := q15
  obtain ⟨y16, h16, b16⟩ := opens_Op _ _ _ e16
  obtain ⟨u16_0, q16, j16_0, j16_1, j16_2, l16_0⟩ := h16
  simp only [List.cons.injEq, and_true] at q16
  obtain ⟨rfl, rfl, rfl, rfl, rfl⟩ := q16
  obtain ⟨y17, h17, b17⟩ := opens_list (size := 4) (f := ItemT.enc) Tryz.underlying35 (by kernel_rfl) (by decide) opens_Item _ _ _ e17
  obtain ⟨u17, q17, l17⟩ := h17
  simp only [List.cons.injEq, and_true] at q17
  subst q17
  obtain ⟨y18, h18, b18⟩ := opens_list (size := 1) (f := encT) Tryz.underlying46 (by kernel_rfl) (by decide) (opens_text Tryz.underlying9) _ _ _ e18
  obtain ⟨u18, q18, l18⟩ := h18
  simp only [List.cons.injEq, and_true] at q18
  subst q18
  obtain ⟨y19, h19, b19⟩ := opens_int Tryz.underlying38 _ _ _ e19
  obtain ⟨q19, j19⟩ := h19
  simp only [List.cons.injEq, and_true] at q19
  subst q19
  refine ⟨⟨y0, y1, y2, y3, y4, y5, y6, y7, y8, y9, y10, y11, y12, y13, y14, y15, y16, y17, y18, y19⟩, ⟨_, _, _, _, _, _, _, _, _, _, rfl, j0, j1_0, j1_1, j2_0, j2_1, j3, j4, j5_0, j5_1, j6, j7, j8, j12_0, j12_1, j12_2, j12_3, j12_4, j12_5, j13_0, j13_1, j13_2, j14_0, j14_1, j14_2, j14_3, j14_4, j15_0, j15_1, j16_0, j16_1, j16_2, j19, l9, l10, l11, l13_0, l13_1, l13_2, l15_0, l16_0, l17, l18⟩, ?_⟩
  (unfold MsgT.enc); simp only [List.length_append, List.length_nil, encI_length, bB_length, leB_length, encT_length, encBy_length, Rows.uptoBulk, Rows.uptoBulkAll, List.map_cons, List.map_nil]
  simp only [EntryT.enc, InfoT.enc, NodeT.enc, ObjectT.enc, OpT.enc, PgT.enc, StateT.enc, List.length_append, List.length_nil, encI_length, bB_length, leB_length, encT_length, encBy_length] at b0 b1 b2 b3 b4 b5 b6 b7 b8 b9 b10 b11 b12 b13 b14 b15 b16 b17 b18 b19
  simp only [EntryT.enc, InfoT.enc, NodeT.enc, ObjectT.enc, OpT.enc, PgT.enc, StateT.enc, List.length_append, List.length_nil, encI_length, bB_length, leB_length, encT_length, encBy_length]
  omega

end
end Go.Proofs.YtanmfldgillodaaGreat
