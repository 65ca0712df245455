/- Opening the structs of the wire layer. -/
import Derived.Test.YtanmfldgillodaaGreatOp1
import Derived.Test.YtanmfldgillodaaGreatPr2
set_option linter.unusedSimpArgs false
set_option linter.unusedVariables false
namespace Go.Proofs.YtanmfldgillodaaGreat
open Go.RowKit Go.ChangeShapes Go.WideShapes Go.ChangeAt

section
variable {H : Type} {enc : TypeId × Value → H} {W : World}

theorem opens_text {P : Program} {t : TypeId} (ht : P.underlying t = some .string) : Opens enc P W t textIs (fun y => (encT y).length) := by
  intro fuel cs x h
  obtain ⟨s, rfl, rfl, hw⟩ := DataW.trod_string ht h
  refine ⟨s, rfl, ?_⟩
  show (encT s).length ≤ _
  have e : s.data.toList.length = s.size := by simp
  rw [encT_length]
  simp only [Rows.uptoBulk]
  omega

theorem opens_crc {P : Program} {t : TypeId} (ht : P.underlying t = some (.int .u32)) : Opens enc P W t crcIs (fun _ => 4) := by
  intro fuel cs x h
  obtain ⟨n, rfl, rfl, hw⟩ := DataW.trod_int ht h
  simp only [Lit.wf, IntKind.min, IntKind.max, IntKind.signed, IntKind.bits] at hw
  simp at hw
  refine ⟨n.toNat, ⟨by rw [show ((n.toNat : Nat) : Int) = n by omega], by omega⟩, ?_⟩
  simp [Rows.uptoBulk]

theorem opens_byte {P : Program} {t : TypeId} (ht : P.underlying t = some (.int .u8)) : Opens enc P W t byteIs (fun y => ([y] : List UInt8).length) := by
  intro fuel cs x h
  obtain ⟨n, rfl, rfl, hw⟩ := DataW.trod_int ht h
  simp only [Lit.wf, IntKind.min, IntKind.max, IntKind.signed, IntKind.bits] at hw
  simp at hw
  obtain ⟨m, rfl⟩ := Int.eq_ofNat_of_zero_le hw.1
  refine ⟨UInt8.ofNat m, ?_, ?_⟩
  · unfold byteIs
    rw [bv_ofNat m (by omega)]
  · simp [Rows.uptoBulk]

theorem opens_bytes {P : Program} {t e : TypeId} (ht : P.underlying t = some (.slice e)) (he : P.underlying e = some (.int .u8)) (hc : P.cellsOf e = 1) : Opens enc P W t (sliceIs 1 byteIs) (fun y => (encBy y).length) := by
  intro fuel cs x h
  obtain ⟨y, h1, h2⟩ := opens_list (size := 1) (f := fun b => [b]) ht hc (by decide) (opens_byte he) fuel cs x h
  refine ⟨y, h1, ?_⟩
  show (encBy y).length ≤ _
  rw [encBy_length]
  have e : (y.flatMap fun b => [b]) = y := by
    clear h1 h2
    induction y with
    | nil => rfl
    | cons a r ih => rw [List.flatMap_cons, ih]; rfl
  simp only [e] at h2
  exact h2

set_option maxRecDepth 100000 in
set_option maxHeartbeats 800000 in
theorem opens_Version : Opens enc Tryz.prog W 30 VersionT.Is (fun y => y.enc.length) := by
  intro fuel cs x h
  obtain ⟨xs, m, rfl, rfl, hl, hxl, hel⟩ := DataW.trod_struct Tryz.underlying30 h
  have hc : Tryz.prog.cellsOf 30 = 2 := by kernel_rfl
  rw [hc] at hl
  have hx : xs.length = 2 := hxl
  match cs, hl with
  | [c0, c1], _ =>
  match xs, hx with
  | [x0, x1], _ =>
  have e0 : DataW.trod enc Tryz.prog W 0 (fun _ => true) true m 3 (([c0, c1].drop 0).take (Tryz.prog.cellsOf 3)) = some x0 := hel 0 _ rfl
  rw [show Tryz.prog.cellsOf 3 = 1 by kernel_rfl] at e0
  replace e0 : DataW.trod enc Tryz.prog W 0 (fun _ => true) true m 3 [c0] = some x0 := e0
  have e1 : DataW.trod enc Tryz.prog W 0 (fun _ => true) true m 3 (([c0, c1].drop 1).take (Tryz.prog.cellsOf 3)) = some x1 := hel 1 _ rfl
  rw [show Tryz.prog.cellsOf 3 = 1 by kernel_rfl] at e1
  replace e1 : DataW.trod enc Tryz.prog W 0 (fun _ => true) true m 3 [c1] = some x1 := e1
  obtain ⟨y0, h0, b0⟩ := opens_int Tryz.underlying3 _ _ _ e0
  obtain ⟨q0, j0⟩ := h0
  simp only [List.cons.injEq, and_true] at q0
  subst q0
  obtain ⟨y1, h1, b1⟩ := opens_int Tryz.underlying3 _ _ _ e1
  obtain ⟨q1, j1⟩ := h1
  simp only [List.cons.injEq, and_true] at q1
  subst q1
  refine ⟨⟨y0, y1⟩, ⟨rfl, j0, j1⟩, ?_⟩
  simp only [VersionT.enc, List.length_append, List.length_nil, encI_length, bB_length, leB_length, encT_length, encBy_length, Rows.uptoBulk, Rows.uptoBulkAll, List.map_cons, List.map_nil]
  simp only [List.length_append, List.length_nil, encI_length, bB_length, leB_length, encT_length, encBy_length] at b0 b1
  skip
  omega

set_option maxRecDepth 100000 in
set_option maxHeartbeats 800000 in
theorem opens_Pg : Opens enc Tryz.prog W 25 PgT.Is (fun y => y.enc.length) := by
  intro fuel cs x h
  obtain ⟨xs, m, rfl, rfl, hl, hxl, hel⟩ := DataW.trod_struct Tryz.underlying25 h
  have hc : Tryz.prog.cellsOf 25 = 2 := by kernel_rfl
  rw [hc] at hl
  have hx : xs.length = 2 := hxl
  match cs, hl with
  | [c0, c1], _ =>
  match xs, hx with
  | [x0, x1], _ =>
  have e0 : DataW.trod enc Tryz.prog W 0 (fun _ => true) true m 3 (([c0, c1].drop 0).take (Tryz.prog.cellsOf 3)) = some x0 := hel 0 _ rfl
  rw [show Tryz.prog.cellsOf 3 = 1 by kernel_rfl] at e0
  replace e0 : DataW.trod enc Tryz.prog W 0 (fun _ => true) true m 3 [c0] = some x0 := e0
  have e1 : DataW.trod enc Tryz.prog W 0 (fun _ => true) true m 3 (([c0, c1].drop 1).take (Tryz.prog.cellsOf 3)) = some x1 := hel 1 _ rfl
  rw [show Tryz.prog.cellsOf 3 = 1 by kernel_rfl] at e1
  replace e1 : DataW.trod enc Tryz.prog W 0 (fun _ => true) true m 3 [c1] = some x1 := e1
  obtain ⟨y0, h0, b0⟩ := opens_int Tryz.underlying3 _ _ _ e0
  obtain ⟨q0, j0⟩ := h0
  simp only [List.cons.injEq, and_true] at q0
  subst q0
  obtain ⟨y1, h1, b1⟩ := opens_int Tryz.underlying3 _ _ _ e1
  obtain ⟨q1, j1⟩ := h1
  simp only [List.cons.injEq, and_true] at q1
  subst q1
  refine ⟨⟨y0, y1⟩, ⟨rfl, j0, j1⟩, ?_⟩
  simp only [PgT.enc, List.length_append, List.length_nil, encI_length, bB_length, leB_length, encT_length, encBy_length, Rows.uptoBulk, Rows.uptoBulkAll, List.map_cons, List.map_nil]
  simp only [List.length_append, List.length_nil, encI_length, bB_length, leB_length, encT_length, encBy_length] at b0 b1
  skip
  omega

set_option maxRecDepth 100000 in
set_option maxHeartbeats 800000 in
theorem opens_Entry : Opens enc Tryz.prog W 40 EntryT.Is (fun y => y.enc.length) := by
  intro fuel cs x h
  obtain ⟨xs, m, rfl, rfl, hl, hxl, hel⟩ := DataW.trod_struct Tryz.underlying40 h
  have hc : Tryz.prog.cellsOf 40 = 7 := by kernel_rfl
  rw [hc] at hl
  have hx : xs.length = 6 := hxl
  match cs, hl with
  | [c0, c1, c2, c3, c4, c5, c6], _ =>
  match xs, hx with
  | [x0, x1, x2, x3, x4, x5], _ =>
  have e0 : DataW.trod enc Tryz.prog W 0 (fun _ => true) true m 30 (([c0, c1, c2, c3, c4, c5, c6].drop 0).take (Tryz.prog.cellsOf 30)) = some x0 := hel 0 _ rfl
  rw [show Tryz.prog.cellsOf 30 = 2 by kernel_rfl] at e0
  replace e0 : DataW.trod enc Tryz.prog W 0 (fun _ => true) true m 30 [c0, c1] = some x0 := e0
  have e1 : DataW.trod enc Tryz.prog W 0 (fun _ => true) true m 4 (([c0, c1, c2, c3, c4, c5, c6].drop 2).take (Tryz.prog.cellsOf 4)) = some x1 := hel 1 _ rfl
  rw [show Tryz.prog.cellsOf 4 = 1 by kernel_rfl] at e1
  replace e1 : DataW.trod enc Tryz.prog W 0 (fun _ => true) true m 4 [c2] = some x1 := e1
  have e2 : DataW.trod enc Tryz.prog W 0 (fun _ => true) true m 38 (([c0, c1, c2, c3, c4, c5, c6].drop 3).take (Tryz.prog.cellsOf 38)) = some x2 := hel 2 _ rfl
  rw [show Tryz.prog.cellsOf 38 = 1 by kernel_rfl] at e2
  replace e2 : DataW.trod enc Tryz.prog W 0 (fun _ => true) true m 38 [c3] = some x2 := e2
  have e3 : DataW.trod enc Tryz.prog W 0 (fun _ => true) true m 9 (([c0, c1, c2, c3, c4, c5, c6].drop 4).take (Tryz.prog.cellsOf 9)) = some x3 := hel 3 _ rfl
  rw [show Tryz.prog.cellsOf 9 = 1 by kernel_rfl] at e3
  replace e3 : DataW.trod enc Tryz.prog W 0 (fun _ => true) true m 9 [c4] = some x3 := e3
  have e4 : DataW.trod enc Tryz.prog W 0 (fun _ => true) true m 3 (([c0, c1, c2, c3, c4, c5, c6].drop 5).take (Tryz.prog.cellsOf 3)) = some x4 := hel 4 _ rfl
  rw [show Tryz.prog.cellsOf 3 = 1 by kernel_rfl] at e4
  replace e4 : DataW.trod enc Tryz.prog W 0 (fun _ => true) true m 3 [c5] = some x4 := e4
  have e5 : DataW.trod enc Tryz.prog W 0 (fun _ => true) true m 3 (([c0, c1, c2, c3, c4, c5, c6].drop 6).take (Tryz.prog.cellsOf 3)) = some x5 := hel 5 _ rfl
  rw [show Tryz.prog.cellsOf 3 = 1 by kernel_rfl] at e5
  replace e5 : DataW.trod enc Tryz.prog W 0 (fun _ => true) true m 3 [c6] = some x5 := e5
  obtain ⟨y0, h0, b0⟩ := opens_Version _ _ _ e0
  obtain ⟨q0, j0_0, j0_1⟩ := h0
  simp only [List.cons.injEq, and_true] at q0
  obtain ⟨rfl, rfl⟩ := q0
  obtain ⟨y1, h1, b1⟩ := opens_bool Tryz.underlying4 _ _ _ e1
  unfold flagIs at h1
  simp only [List.cons.injEq, and_true] at h1
  subst h1
  obtain ⟨y2, h2, b2⟩ := opens_int Tryz.underlying38 _ _ _ e2
  obtain ⟨q2, j2⟩ := h2
  simp only [List.cons.injEq, and_true] at q2
  subst q2
  obtain ⟨y3, h3, b3⟩ := opens_text Tryz.underlying9 _ _ _ e3
  unfold textIs at h3
  simp only [List.cons.injEq, and_true] at h3
  subst h3
  obtain ⟨y4, h4, b4⟩ := opens_int Tryz.underlying3 _ _ _ e4
  obtain ⟨q4, j4⟩ := h4
  simp only [List.cons.injEq, and_true] at q4
  subst q4
  obtain ⟨y5, h5, b5⟩ := opens_int Tryz.underlying3 _ _ _ e5
  obtain ⟨q5, j5⟩ := h5
  simp only [List.cons.injEq, and_true] at q5
  subst q5
  refine ⟨⟨y0, y1, y2, y3, y4, y5⟩, ⟨rfl, j0_0, j0_1, j2, j4, j5⟩, ?_⟩
  simp only [EntryT.enc, List.length_append, List.length_nil, encI_length, bB_length, leB_length, encT_length, encBy_length, Rows.uptoBulk, Rows.uptoBulkAll, List.map_cons, List.map_nil]
  simp only [VersionT.enc, List.length_append, List.length_nil, encI_length, bB_length, leB_length, encT_length, encBy_length] at b0 b1 b2 b3 b4 b5
  simp only [VersionT.enc, List.length_append, List.length_nil, encI_length, bB_length, leB_length, encT_length, encBy_length]
  omega

set_option maxRecDepth 100000 in
set_option maxHeartbeats 800000 in
theorem opens_Last : Opens enc Tryz.prog W 236 LastT.Is (fun y => y.enc.length) := by
  intro fuel cs x h
  obtain ⟨xs, m, rfl, rfl, hl, hxl, hel⟩ := DataW.trod_struct Tryz.underlying236 h
  have hc : Tryz.prog.cellsOf 236 = 5 := by kernel_rfl
  rw [hc] at hl
  have hx : xs.length = 4 := hxl
  match cs, hl with
  | [c0, c1, c2, c3, c4], _ =>
  match xs, hx with
  | [x0, x1, x2, x3], _ =>
  have e0 : DataW.trod enc Tryz.prog W 0 (fun _ => true) true m 3 (([c0, c1, c2, c3, c4].drop 0).take (Tryz.prog.cellsOf 3)) = some x0 := hel 0 _ rfl
  rw [show Tryz.prog.cellsOf 3 = 1 by kernel_rfl] at e0
  replace e0 : DataW.trod enc Tryz.prog W 0 (fun _ => true) true m 3 [c0] = some x0 := e0
  have e1 : DataW.trod enc Tryz.prog W 0 (fun _ => true) true m 3 (([c0, c1, c2, c3, c4].drop 1).take (Tryz.prog.cellsOf 3)) = some x1 := hel 1 _ rfl
  rw [show Tryz.prog.cellsOf 3 = 1 by kernel_rfl] at e1
  replace e1 : DataW.trod enc Tryz.prog W 0 (fun _ => true) true m 3 [c1] = some x1 := e1
  have e2 : DataW.trod enc Tryz.prog W 0 (fun _ => true) true m 38 (([c0, c1, c2, c3, c4].drop 2).take (Tryz.prog.cellsOf 38)) = some x2 := hel 2 _ rfl
  rw [show Tryz.prog.cellsOf 38 = 1 by kernel_rfl] at e2
  replace e2 : DataW.trod enc Tryz.prog W 0 (fun _ => true) true m 38 [c2] = some x2 := e2
  have e3 : DataW.trod enc Tryz.prog W 0 (fun _ => true) true m 30 (([c0, c1, c2, c3, c4].drop 3).take (Tryz.prog.cellsOf 30)) = some x3 := hel 3 _ rfl
  rw [show Tryz.prog.cellsOf 30 = 2 by kernel_rfl] at e3
  replace e3 : DataW.trod enc Tryz.prog W 0 (fun _ => true) true m 30 [c3, c4] = some x3 := e3
  obtain ⟨y0, h0, b0⟩ := opens_int Tryz.underlying3 _ _ _ e0
  obtain ⟨q0, j0⟩ := h0
  simp only [List.cons.injEq, and_true] at q0
  subst q0
  obtain ⟨y1, h1, b1⟩ := opens_int Tryz.underlying3 _ _ _ e1
  obtain ⟨q1, j1⟩ := h1
  simp only [List.cons.injEq, and_true] at q1
  subst q1
  obtain ⟨y2, h2, b2⟩ := opens_int Tryz.underlying38 _ _ _ e2
  obtain ⟨q2, j2⟩ := h2
  simp only [List.cons.injEq, and_true] at q2
  subst q2
  obtain ⟨y3, h3, b3⟩ := opens_Version _ _ _ e3
  obtain ⟨q3, j3_0, j3_1⟩ := h3
  simp only [List.cons.injEq, and_true] at q3
  obtain ⟨rfl, rfl⟩ := q3
  refine ⟨⟨y0, y1, y2, y3⟩, ⟨rfl, j0, j1, j2, j3_0, j3_1⟩, ?_⟩
  simp only [LastT.enc, List.length_append, List.length_nil, encI_length, bB_length, leB_length, encT_length, encBy_length, Rows.uptoBulk, Rows.uptoBulkAll, List.map_cons, List.map_nil]
  simp only [VersionT.enc, List.length_append, List.length_nil, encI_length, bB_length, leB_length, encT_length, encBy_length] at b0 b1 b2 b3
  simp only [VersionT.enc, List.length_append, List.length_nil, encI_length, bB_length, leB_length, encT_length, encBy_length]
  omega

set_option maxRecDepth 100000 in
set_option maxHeartbeats 800000 in
theorem opens_Item : Opens enc Tryz.prog W 175 ItemT.Is (fun y => y.enc.length) := by
  intro fuel cs x h
  obtain ⟨xs, m, rfl, rfl, hl, hxl, hel⟩ := DataW.trod_struct Tryz.underlying175 h
  have hc : Tryz.prog.cellsOf 175 = 4 := by kernel_rfl
  rw [hc] at hl
  have hx : xs.length = 3 := hxl
  match cs, hl with
  | [c0, c1, c2, c3], _ =>
  match xs, hx with
  | [x0, x1, x2], _ =>
  have e0 : DataW.trod enc Tryz.prog W 0 (fun _ => true) true m 9 (([c0, c1, c2, c3].drop 0).take (Tryz.prog.cellsOf 9)) = some x0 := hel 0 _ rfl
  rw [show Tryz.prog.cellsOf 9 = 1 by kernel_rfl] at e0
  replace e0 : DataW.trod enc Tryz.prog W 0 (fun _ => true) true m 9 [c0] = some x0 := e0
  have e1 : DataW.trod enc Tryz.prog W 0 (fun _ => true) true m 30 (([c0, c1, c2, c3].drop 1).take (Tryz.prog.cellsOf 30)) = some x1 := hel 1 _ rfl
  rw [show Tryz.prog.cellsOf 30 = 2 by kernel_rfl] at e1
  replace e1 : DataW.trod enc Tryz.prog W 0 (fun _ => true) true m 30 [c1, c2] = some x1 := e1
  have e2 : DataW.trod enc Tryz.prog W 0 (fun _ => true) true m 173 (([c0, c1, c2, c3].drop 3).take (Tryz.prog.cellsOf 173)) = some x2 := hel 2 _ rfl
  rw [show Tryz.prog.cellsOf 173 = 1 by kernel_rfl] at e2
  replace e2 : DataW.trod enc Tryz.prog W 0 (fun _ => true) true m 173 [c3] = some x2 := e2
  obtain ⟨y0, h0, b0⟩ := opens_text Tryz.underlying9 _ _ _ e0
  unfold textIs at h0
  simp only [List.cons.injEq, and_true] at h0
  subst h0
  obtain ⟨y1, h1, b1⟩ := opens_Version _ _ _ e1
  obtain ⟨q1, j1_0, j1_1⟩ := h1
  simp only [List.cons.injEq, and_true] at q1
  obtain ⟨rfl, rfl⟩ := q1
  obtain ⟨y2, h2, b2⟩ := opens_crc Tryz.underlying173 _ _ _ e2
  obtain ⟨q2, j2⟩ := h2
  simp only [List.cons.injEq, and_true] at q2
  subst q2
  refine ⟨⟨y0, y1, y2⟩, ⟨rfl, j1_0, j1_1, j2⟩, ?_⟩
  simp only [ItemT.enc, List.length_append, List.length_nil, encI_length, bB_length, leB_length, encT_length, encBy_length, Rows.uptoBulk, Rows.uptoBulkAll, List.map_cons, List.map_nil]
  simp only [VersionT.enc, List.length_append, List.length_nil, encI_length, bB_length, leB_length, encT_length, encBy_length] at b0 b1 b2
  simp only [VersionT.enc, List.length_append, List.length_nil, encI_length, bB_length, leB_length, encT_length, encBy_length]
  omega

set_option maxRecDepth 100000 in
set_option maxHeartbeats 800000 in
theorem opens_State : Opens enc Tryz.prog W 37 StateT.Is (fun y => y.enc.length) := by
  intro fuel cs x h
  obtain ⟨xs, m, rfl, rfl, hl, hxl, hel⟩ := DataW.trod_struct Tryz.underlying37 h
  have hc : Tryz.prog.cellsOf 37 = 6 := by kernel_rfl
  rw [hc] at hl
  have hx : xs.length = 5 := hxl
  match cs, hl with
  | [c0, c1, c2, c3, c4, c5], _ =>
  match xs, hx with
  | [x0, x1, x2, x3, x4], _ =>
  have e0 : DataW.trod enc Tryz.prog W 0 (fun _ => true) true m 3 (([c0, c1, c2, c3, c4, c5].drop 0).take (Tryz.prog.cellsOf 3)) = some x0 := hel 0 _ rfl
  rw [show Tryz.prog.cellsOf 3 = 1 by kernel_rfl] at e0
  replace e0 : DataW.trod enc Tryz.prog W 0 (fun _ => true) true m 3 [c0] = some x0 := e0
  have e1 : DataW.trod enc Tryz.prog W 0 (fun _ => true) true m 30 (([c0, c1, c2, c3, c4, c5].drop 1).take (Tryz.prog.cellsOf 30)) = some x1 := hel 1 _ rfl
  rw [show Tryz.prog.cellsOf 30 = 2 by kernel_rfl] at e1
  replace e1 : DataW.trod enc Tryz.prog W 0 (fun _ => true) true m 30 [c1, c2] = some x1 := e1
  have e2 : DataW.trod enc Tryz.prog W 0 (fun _ => true) true m 33 (([c0, c1, c2, c3, c4, c5].drop 3).take (Tryz.prog.cellsOf 33)) = some x2 := hel 2 _ rfl
  rw [show Tryz.prog.cellsOf 33 = 1 by kernel_rfl] at e2
  replace e2 : DataW.trod enc Tryz.prog W 0 (fun _ => true) true m 33 [c3] = some x2 := e2
  have e3 : DataW.trod enc Tryz.prog W 0 (fun _ => true) true m 34 (([c0, c1, c2, c3, c4, c5].drop 4).take (Tryz.prog.cellsOf 34)) = some x3 := hel 3 _ rfl
  rw [show Tryz.prog.cellsOf 34 = 1 by kernel_rfl] at e3
  replace e3 : DataW.trod enc Tryz.prog W 0 (fun _ => true) true m 34 [c4] = some x3 := e3
  have e4 : DataW.trod enc Tryz.prog W 0 (fun _ => true) true m 35 (([c0, c1, c2, c3, c4, c5].drop 5).take (Tryz.prog.cellsOf 35)) = some x4 := hel 4 _ rfl
  rw [show Tryz.prog.cellsOf 35 = 1 by kernel_rfl] at e4
  replace e4 : DataW.trod enc Tryz.prog W 0 (fun _ => true) true m 35 [c5] = some x4 := e4
  obtain ⟨y0, h0, b0⟩ := opens_int Tryz.underlying3 _ _ _ e0
  obtain ⟨q0, j0⟩ := h0
  simp only [List.cons.injEq, and_true] at q0
  subst q0
  obtain ⟨y1, h1, b1⟩ := opens_Version _ _ _ e1
  obtain ⟨q1, j1_0, j1_1⟩ := h1
  simp only [List.cons.injEq, and_true] at q1
  obtain ⟨rfl, rfl⟩ := q1
  obtain ⟨y2, h2, b2⟩ := opens_list (size := 7) (f := EntryT.enc) Tryz.underlying33 (by kernel_rfl) (by decide) opens_Entry _ _ _ e2
  obtain ⟨u2, q2, l2⟩ := h2
  simp only [List.cons.injEq, and_true] at q2
  subst q2
  obtain ⟨y3, h3, b3⟩ := opens_list (size := 5) (f := LastT.enc) Tryz.underlying34 (by kernel_rfl) (by decide) opens_Last _ _ _ e3
  obtain ⟨u3, q3, l3⟩ := h3
  simp only [List.cons.injEq, and_true] at q3
  subst q3
  obtain ⟨y4, h4, b4⟩ := opens_list (size := 4) (f := ItemT.enc) Tryz.underlying35 (by kernel_rfl) (by decide) opens_Item _ _ _ e4
  obtain ⟨u4, q4, l4⟩ := h4
  simp only [List.cons.injEq, and_true] at q4
  subst q4
  refine ⟨⟨y0, y1, y2, y3, y4⟩, ⟨_, _, _, rfl, j0, j1_0, j1_1, l2, l3, l4⟩, ?_⟩
  simp only [StateT.enc, List.length_append, List.length_nil, encI_length, bB_length, leB_length, encT_length, encBy_length, Rows.uptoBulk, Rows.uptoBulkAll, List.map_cons, List.map_nil]
  simp only [VersionT.enc, List.length_append, List.length_nil, encI_length, bB_length, leB_length, encT_length, encBy_length] at b0 b1 b2 b3 b4
  simp only [VersionT.enc, List.length_append, List.length_nil, encI_length, bB_length, leB_length, encT_length, encBy_length]
  omega

set_option maxRecDepth 100000 in
set_option maxHeartbeats 800000 in
theorem opens_Step : Opens enc Tryz.prog W 246 StepT.Is (fun y => y.enc.length) := by
  intro fuel cs x h
  obtain ⟨xs, m, rfl, rfl, hl, hxl, hel⟩ := DataW.trod_struct Tryz.underlying246 h
  have hc : Tryz.prog.cellsOf 246 = 8 := by kernel_rfl
  rw [hc] at hl
  have hx : xs.length = 7 := hxl
  match cs, hl with
  | [c0, c1, c2, c3, c4, c5, c6, c7], _ =>
  match xs, hx with
  | [x0, x1, x2, x3, x4, x5, x6], _ =>
  have e0 : DataW.trod enc Tryz.prog W 0 (fun _ => true) true m 3 (([c0, c1, c2, c3, c4, c5, c6, c7].drop 0).take (Tryz.prog.cellsOf 3)) = some x0 := hel 0 _ rfl
  rw [show Tryz.prog.cellsOf 3 = 1 by kernel_rfl] at e0
  replace e0 : DataW.trod enc Tryz.prog W 0 (fun _ => true) true m 3 [c0] = some x0 := e0
  have e1 : DataW.trod enc Tryz.prog W 0 (fun _ => true) true m 25 (([c0, c1, c2, c3, c4, c5, c6, c7].drop 1).take (Tryz.prog.cellsOf 25)) = some x1 := hel 1 _ rfl
  rw [show Tryz.prog.cellsOf 25 = 2 by kernel_rfl] at e1
  replace e1 : DataW.trod enc Tryz.prog W 0 (fun _ => true) true m 25 [c1, c2] = some x1 := e1
  have e2 : DataW.trod enc Tryz.prog W 0 (fun _ => true) true m 9 (([c0, c1, c2, c3, c4, c5, c6, c7].drop 3).take (Tryz.prog.cellsOf 9)) = some x2 := hel 2 _ rfl
  rw [show Tryz.prog.cellsOf 9 = 1 by kernel_rfl] at e2
  replace e2 : DataW.trod enc Tryz.prog W 0 (fun _ => true) true m 9 [c3] = some x2 := e2
  have e3 : DataW.trod enc Tryz.prog W 0 (fun _ => true) true m 3 (([c0, c1, c2, c3, c4, c5, c6, c7].drop 4).take (Tryz.prog.cellsOf 3)) = some x3 := hel 3 _ rfl
  rw [show Tryz.prog.cellsOf 3 = 1 by kernel_rfl] at e3
  replace e3 : DataW.trod enc Tryz.prog W 0 (fun _ => true) true m 3 [c4] = some x3 := e3
  have e4 : DataW.trod enc Tryz.prog W 0 (fun _ => true) true m 3 (([c0, c1, c2, c3, c4, c5, c6, c7].drop 5).take (Tryz.prog.cellsOf 3)) = some x4 := hel 4 _ rfl
  rw [show Tryz.prog.cellsOf 3 = 1 by kernel_rfl] at e4
  replace e4 : DataW.trod enc Tryz.prog W 0 (fun _ => true) true m 3 [c5] = some x4 := e4
  have e5 : DataW.trod enc Tryz.prog W 0 (fun _ => true) true m 9 (([c0, c1, c2, c3, c4, c5, c6, c7].drop 6).take (Tryz.prog.cellsOf 9)) = some x5 := hel 5 _ rfl
  rw [show Tryz.prog.cellsOf 9 = 1 by kernel_rfl] at e5
  replace e5 : DataW.trod enc Tryz.prog W 0 (fun _ => true) true m 9 [c6] = some x5 := e5
  have e6 : DataW.trod enc Tryz.prog W 0 (fun _ => true) true m 41 (([c0, c1, c2, c3, c4, c5, c6, c7].drop 7).take (Tryz.prog.cellsOf 41)) = some x6 := hel 6 _ rfl
  rw [show Tryz.prog.cellsOf 41 = 1 by kernel_rfl] at e6
  replace e6 : DataW.trod enc Tryz.prog W 0 (fun _ => true) true m 41 [c7] = some x6 := e6
  obtain ⟨y0, h0, b0⟩ := opens_int Tryz.underlying3 _ _ _ e0
  obtain ⟨q0, j0⟩ := h0
  simp only [List.cons.injEq, and_true] at q0
  subst q0
  obtain ⟨y1, h1, b1⟩ := opens_Pg _ _ _ e1
  obtain ⟨q1, j1_0, j1_1⟩ := h1
  simp only [List.cons.injEq, and_true] at q1
  obtain ⟨rfl, rfl⟩ := q1
  obtain ⟨y2, h2, b2⟩ := opens_text Tryz.underlying9 _ _ _ e2
  unfold textIs at h2
  simp only [List.cons.injEq, and_true] at h2
  subst h2
  obtain ⟨y3, h3, b3⟩ := opens_int Tryz.underlying3 _ _ _ e3
  obtain ⟨q3, j3⟩ := h3
  simp only [List.cons.injEq, and_true] at q3
  subst q3
  obtain ⟨y4, h4, b4⟩ := opens_int Tryz.underlying3 _ _ _ e4
  obtain ⟨q4, j4⟩ := h4
  simp only [List.cons.injEq, and_true] at q4
  subst q4
  obtain ⟨y5, h5, b5⟩ := opens_text Tryz.underlying9 _ _ _ e5
  unfold textIs at h5
  simp only [List.cons.injEq, and_true] at h5
  subst h5
  obtain ⟨y6, h6, b6⟩ := opens_bytes Tryz.underlying41 Tryz.underlying5 (by kernel_rfl) _ _ _ e6
  obtain ⟨u6, q6, l6⟩ := h6
  simp only [List.cons.injEq, and_true] at q6
  subst q6
  refine ⟨⟨y0, y1, y2, y3, y4, y5, y6⟩, ⟨_, rfl, j0, j1_0, j1_1, j3, j4, l6⟩, ?_⟩
  simp only [StepT.enc, List.length_append, List.length_nil, encI_length, bB_length, leB_length, encT_length, encBy_length, Rows.uptoBulk, Rows.uptoBulkAll, List.map_cons, List.map_nil]
  simp only [PgT.enc, List.length_append, List.length_nil, encI_length, bB_length, leB_length, encT_length, encBy_length] at b0 b1 b2 b3 b4 b5 b6
  simp only [PgT.enc, List.length_append, List.length_nil, encI_length, bB_length, leB_length, encT_length, encBy_length]
  omega

set_option maxRecDepth 100000 in
set_option maxHeartbeats 800000 in
theorem opens_Tx : Opens enc Tryz.prog W 83 TxT.Is (fun y => y.enc.length) := by
  intro fuel cs x h
  obtain ⟨xs, m, rfl, rfl, hl, hxl, hel⟩ := DataW.trod_struct Tryz.underlying83 h
  have hc : Tryz.prog.cellsOf 83 = 1 := by kernel_rfl
  rw [hc] at hl
  have hx : xs.length = 1 := hxl
  match cs, hl with
  | [c0], _ =>
  match xs, hx with
  | [x0], _ =>
  have e0 : DataW.trod enc Tryz.prog W 0 (fun _ => true) true m 81 (([c0].drop 0).take (Tryz.prog.cellsOf 81)) = some x0 := hel 0 _ rfl
  rw [show Tryz.prog.cellsOf 81 = 1 by kernel_rfl] at e0
  replace e0 : DataW.trod enc Tryz.prog W 0 (fun _ => true) true m 81 [c0] = some x0 := e0
  obtain ⟨y0, h0, b0⟩ := opens_list (size := 8) (f := StepT.enc) Tryz.underlying81 (by kernel_rfl) (by decide) opens_Step _ _ _ e0
  obtain ⟨u0, q0, l0⟩ := h0
  simp only [List.cons.injEq, and_true] at q0
  subst q0
  refine ⟨⟨y0⟩, ⟨_, rfl, l0⟩, ?_⟩
  simp only [TxT.enc, List.length_append, List.length_nil, encI_length, bB_length, leB_length, encT_length, encBy_length, Rows.uptoBulk, Rows.uptoBulkAll, List.map_cons, List.map_nil]
  simp only [List.length_append, List.length_nil, encI_length, bB_length, leB_length, encT_length, encBy_length] at b0
  skip
  omega

end
end Go.Proofs.YtanmfldgillodaaGreat
