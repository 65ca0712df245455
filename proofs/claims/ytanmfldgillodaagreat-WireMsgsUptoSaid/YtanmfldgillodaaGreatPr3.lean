/- Parsers of the structs, and their laws. -/
import Derived.Test.YtanmfldgillodaaGreatPut3
set_option linter.unusedSimpArgs false
set_option linter.unusedVariables false
namespace Go.Proofs.YtanmfldgillodaaGreat
open Go.RowKit

def pNode : Pr NodeT := fun bs => (pI bs).bind fun y0 => (pI y0.2).bind fun y1 => some (⟨y0.1, y1.1⟩, y1.2)
def NodeT.ok (x : NodeT) : Prop := in64 x.kind ∧ in64 x.id
theorem lawNode : Law pNode NodeT.enc NodeT.ok := by
  refine ⟨fun x rest hok => ?_, fun bs x rest h => ?_, fun x => by simp only [NodeT.enc, List.length_append, List.length_nil, encI_length, bB_length, leB_length, encT_length, encBy_length]; omega⟩
  · obtain ⟨o0, o1⟩ := hok
    simp only [pNode, NodeT.enc, List.nil_append, List.append_assoc]
    rw [lawI.enc _ _ o0]
    simp only [Option.bind_some]
    rw [lawI.enc _ _ o1]
    simp only [Option.bind_some]
  · simp only [pNode] at h
    obtain ⟨⟨x0, r0⟩, h0, h⟩ := Option.bind_eq_some_iff.1 h
    obtain ⟨⟨x1, r1⟩, h1, h⟩ := Option.bind_eq_some_iff.1 h
    simp only [Option.some.injEq, Prod.mk.injEq] at h
    obtain ⟨rfl, rfl⟩ := h
    obtain ⟨e0, o0⟩ := lawI.dec _ _ _ h0
    obtain ⟨e1, o1⟩ := lawI.dec _ _ _ h1
    simp only at e1
    exact ⟨by rw [e0, e1]; simp only [NodeT.enc, List.nil_append, List.append_assoc], o0, o1⟩
theorem NodeT.stable : Stable NodeT.Is := fun _ _ _ _ _ _ h _ _ => NodeT.Is.heap h
theorem NodeT.Is.ok {w : World} {S : Nat → Prop} {cs : List Value} {x : NodeT} (h : NodeT.Is w S cs x) (hl : x.enc.length < 4294967296) : x.ok := by
  obtain ⟨rfl, i0, i1⟩ := h
  simp only [NodeT.enc, List.length_append, List.length_nil, encI_length, bB_length, leB_length, encT_length, encBy_length] at hl
  exact ⟨i0, i1⟩

def pSlot : Pr SlotT := fun bs => (pI bs).bind fun y0 => (pI y0.2).bind fun y1 => (pB y1.2).bind fun y2 => some (⟨y0.1, y1.1, y2.1⟩, y2.2)
def SlotT.ok (x : SlotT) : Prop := in64 x.slot ∧ in64 x.ballot ∧ x.value.length < 4294967296
theorem lawSlot : Law pSlot SlotT.enc SlotT.ok := by
  refine ⟨fun x rest hok => ?_, fun bs x rest h => ?_, fun x => by simp only [SlotT.enc, List.length_append, List.length_nil, encI_length, bB_length, leB_length, encT_length, encBy_length]; omega⟩
  · obtain ⟨o0, o1, o2⟩ := hok
    simp only [pSlot, SlotT.enc, List.nil_append, List.append_assoc]
    rw [lawI.enc _ _ o0]
    simp only [Option.bind_some]
    rw [lawI.enc _ _ o1]
    simp only [Option.bind_some]
    rw [lawB.enc _ _ o2]
    simp only [Option.bind_some]
  · simp only [pSlot] at h
    obtain ⟨⟨x0, r0⟩, h0, h⟩ := Option.bind_eq_some_iff.1 h
    obtain ⟨⟨x1, r1⟩, h1, h⟩ := Option.bind_eq_some_iff.1 h
    obtain ⟨⟨x2, r2⟩, h2, h⟩ := Option.bind_eq_some_iff.1 h
    simp only [Option.some.injEq, Prod.mk.injEq] at h
    obtain ⟨rfl, rfl⟩ := h
    obtain ⟨e0, o0⟩ := lawI.dec _ _ _ h0
    obtain ⟨e1, o1⟩ := lawI.dec _ _ _ h1
    obtain ⟨e2, o2⟩ := lawB.dec _ _ _ h2
    simp only at e1 e2
    exact ⟨by rw [e0, e1, e2]; simp only [SlotT.enc, List.nil_append, List.append_assoc], o0, o1, o2⟩
theorem SlotT.stable : Stable SlotT.Is := fun _ _ _ _ _ _ h h1 h2 => SlotT.Is.heap h h1 h2
theorem SlotT.Is.ok {w : World} {S : Nat → Prop} {cs : List Value} {x : SlotT} (h : SlotT.Is w S cs x) (hl : x.enc.length < 4294967296) : x.ok := by
  obtain ⟨v_value, rfl, i0, i1, l0⟩ := h
  simp only [SlotT.enc, List.length_append, List.length_nil, encI_length, bB_length, leB_length, encT_length, encBy_length] at hl
  exact ⟨i0, i1, by omega⟩

def pObject : Pr ObjectT := fun bs => (pT bs).bind fun y0 => (pVersion y0.2).bind fun y1 => (pB y1.2).bind fun y2 => some (⟨y0.1, y1.1, y2.1⟩, y2.2)
def ObjectT.ok (x : ObjectT) : Prop := x.name.size < 4294967296 ∧ VersionT.ok x.version ∧ x.data.length < 4294967296
theorem lawObject : Law pObject ObjectT.enc ObjectT.ok := by
  refine ⟨fun x rest hok => ?_, fun bs x rest h => ?_, fun x => by simp only [ObjectT.enc, List.length_append, List.length_nil, encI_length, bB_length, leB_length, encT_length, encBy_length]; omega⟩
  · obtain ⟨o0, o1, o2⟩ := hok
    simp only [pObject, ObjectT.enc, List.nil_append, List.append_assoc]
    rw [lawT.enc _ _ o0]
    simp only [Option.bind_some]
    rw [lawVersion.enc _ _ o1]
    simp only [Option.bind_some]
    rw [lawB.enc _ _ o2]
    simp only [Option.bind_some]
  · simp only [pObject] at h
    obtain ⟨⟨x0, r0⟩, h0, h⟩ := Option.bind_eq_some_iff.1 h
    obtain ⟨⟨x1, r1⟩, h1, h⟩ := Option.bind_eq_some_iff.1 h
    obtain ⟨⟨x2, r2⟩, h2, h⟩ := Option.bind_eq_some_iff.1 h
    simp only [Option.some.injEq, Prod.mk.injEq] at h
    obtain ⟨rfl, rfl⟩ := h
    obtain ⟨e0, o0⟩ := lawT.dec _ _ _ h0
    obtain ⟨e1, o1⟩ := lawVersion.dec _ _ _ h1
    obtain ⟨e2, o2⟩ := lawB.dec _ _ _ h2
    simp only at e1 e2
    exact ⟨by rw [e0, e1, e2]; simp only [ObjectT.enc, List.nil_append, List.append_assoc], o0, o1, o2⟩
theorem ObjectT.stable : Stable ObjectT.Is := fun _ _ _ _ _ _ h h1 h2 => ObjectT.Is.heap h h1 h2
theorem ObjectT.Is.ok {w : World} {S : Nat → Prop} {cs : List Value} {x : ObjectT} (h : ObjectT.Is w S cs x) (hl : x.enc.length < 4294967296) : x.ok := by
  obtain ⟨v_data, rfl, i0, i1, l0⟩ := h
  simp only [ObjectT.enc, VersionT.enc, List.length_append, List.length_nil, encI_length, bB_length, leB_length, encT_length, encBy_length] at hl
  exact ⟨by omega, ⟨i0, i1⟩, by omega⟩

def pInfo : Pr InfoT := fun bs => (pI bs).bind fun y0 => (pVersion y0.2).bind fun y1 => (pVersion y1.2).bind fun y2 => (pI y2.2).bind fun y3 => some (⟨y0.1, y1.1, y2.1, y3.1⟩, y3.2)
def InfoT.ok (x : InfoT) : Prop := in64 x.les ∧ VersionT.ok x.head ∧ VersionT.ok x.tail ∧ in64 x.born
theorem lawInfo : Law pInfo InfoT.enc InfoT.ok := by
  refine ⟨fun x rest hok => ?_, fun bs x rest h => ?_, fun x => by simp only [InfoT.enc, List.length_append, List.length_nil, encI_length, bB_length, leB_length, encT_length, encBy_length]; omega⟩
  · obtain ⟨o0, o1, o2, o3⟩ := hok
    simp only [pInfo, InfoT.enc, List.nil_append, List.append_assoc]
    rw [lawI.enc _ _ o0]
    simp only [Option.bind_some]
    rw [lawVersion.enc _ _ o1]
    simp only [Option.bind_some]
    rw [lawVersion.enc _ _ o2]
    simp only [Option.bind_some]
    rw [lawI.enc _ _ o3]
    simp only [Option.bind_some]
  · simp only [pInfo] at h
    obtain ⟨⟨x0, r0⟩, h0, h⟩ := Option.bind_eq_some_iff.1 h
    obtain ⟨⟨x1, r1⟩, h1, h⟩ := Option.bind_eq_some_iff.1 h
    obtain ⟨⟨x2, r2⟩, h2, h⟩ := Option.bind_eq_some_iff.1 h
    obtain ⟨⟨x3, r3⟩, h3, h⟩ := Option.bind_eq_some_iff.1 h
    simp only [Option.some.injEq, Prod.mk.injEq] at h
    obtain ⟨rfl, rfl⟩ := h
    obtain ⟨e0, o0⟩ := lawI.dec _ _ _ h0
    obtain ⟨e1, o1⟩ := lawVersion.dec _ _ _ h1
    obtain ⟨e2, o2⟩ := lawVersion.dec _ _ _ h2
    obtain ⟨e3, o3⟩ := lawI.dec _ _ _ h3
    simp only at e1 e2 e3
    exact ⟨by rw [e0, e1, e2, e3]; simp only [InfoT.enc, List.nil_append, List.append_assoc], o0, o1, o2, o3⟩
theorem InfoT.stable : Stable InfoT.Is := fun _ _ _ _ _ _ h _ _ => InfoT.Is.heap h
theorem InfoT.Is.ok {w : World} {S : Nat → Prop} {cs : List Value} {x : InfoT} (h : InfoT.Is w S cs x) (hl : x.enc.length < 4294967296) : x.ok := by
  obtain ⟨rfl, i0, i1, i2, i3, i4, i5⟩ := h
  simp only [InfoT.enc, VersionT.enc, List.length_append, List.length_nil, encI_length, bB_length, leB_length, encT_length, encBy_length] at hl
  exact ⟨i0, ⟨i1, i2⟩, ⟨i3, i4⟩, i5⟩

def pOp : Pr OpT := fun bs => (pI bs).bind fun y0 => (pT y0.2).bind fun y1 => (pB y1.2).bind fun y2 => (pVersion y2.2).bind fun y3 => some (⟨y0.1, y1.1, y2.1, y3.1⟩, y3.2)
def OpT.ok (x : OpT) : Prop := in64 x.kind ∧ x.name.size < 4294967296 ∧ x.data.length < 4294967296 ∧ VersionT.ok x.expect
theorem lawOp : Law pOp OpT.enc OpT.ok := by
  refine ⟨fun x rest hok => ?_, fun bs x rest h => ?_, fun x => by simp only [OpT.enc, List.length_append, List.length_nil, encI_length, bB_length, leB_length, encT_length, encBy_length]; omega⟩
  · obtain ⟨o0, o1, o2, o3⟩ := hok
    simp only [pOp, OpT.enc, List.nil_append, List.append_assoc]
    rw [lawI.enc _ _ o0]
    simp only [Option.bind_some]
    rw [lawT.enc _ _ o1]
    simp only [Option.bind_some]
    rw [lawB.enc _ _ o2]
    simp only [Option.bind_some]
    rw [lawVersion.enc _ _ o3]
    simp only [Option.bind_some]
  · simp only [pOp] at h
    obtain ⟨⟨x0, r0⟩, h0, h⟩ := Option.bind_eq_some_iff.1 h
    obtain ⟨⟨x1, r1⟩, h1, h⟩ := Option.bind_eq_some_iff.1 h
    obtain ⟨⟨x2, r2⟩, h2, h⟩ := Option.bind_eq_some_iff.1 h
    obtain ⟨⟨x3, r3⟩, h3, h⟩ := Option.bind_eq_some_iff.1 h
    simp only [Option.some.injEq, Prod.mk.injEq] at h
    obtain ⟨rfl, rfl⟩ := h
    obtain ⟨e0, o0⟩ := lawI.dec _ _ _ h0
    obtain ⟨e1, o1⟩ := lawT.dec _ _ _ h1
    obtain ⟨e2, o2⟩ := lawB.dec _ _ _ h2
    obtain ⟨e3, o3⟩ := lawVersion.dec _ _ _ h3
    simp only at e1 e2 e3
    exact ⟨by rw [e0, e1, e2, e3]; simp only [OpT.enc, List.nil_append, List.append_assoc], o0, o1, o2, o3⟩
theorem OpT.stable : Stable OpT.Is := fun _ _ _ _ _ _ h h1 h2 => OpT.Is.heap h h1 h2
theorem OpT.Is.ok {w : World} {S : Nat → Prop} {cs : List Value} {x : OpT} (h : OpT.Is w S cs x) (hl : x.enc.length < 4294967296) : x.ok := by
  obtain ⟨v_data, rfl, i0, i1, i2, l0⟩ := h
  simp only [OpT.enc, VersionT.enc, List.length_append, List.length_nil, encI_length, bB_length, leB_length, encT_length, encBy_length] at hl
  exact ⟨i0, by omega, by omega, ⟨i1, i2⟩⟩

def pMsg : Pr MsgT := fun bs => (pI bs).bind fun y0 => (pNode y0.2).bind fun y1 => (pNode y1.2).bind fun y2 => (pI y2.2).bind fun y3 => (pI y3.2).bind fun y4 => (pPg y4.2).bind fun y5 => (pI y5.2).bind fun y6 => (pI y6.2).bind fun y7 => (pI y7.2).bind fun y8 => (pL pSlot y8.2).bind fun y9 => (pL pInc y9.2).bind fun y10 => (pL pChange y10.2).bind fun y11 => (pInfo y11.2).bind fun y12 => (pState y12.2).bind fun y13 => (pEntry y13.2).bind fun y14 => (pObject y14.2).bind fun y15 => (pOp y15.2).bind fun y16 => (pL pItem y16.2).bind fun y17 => (pL pT y17.2).bind fun y18 => (pI y18.2).bind fun y19 => some (⟨y0.1, y1.1, y2.1, y3.1, y4.1, y5.1, y6.1, y7.1, y8.1, y9.1, y10.1, y11.1, y12.1, y13.1, y14.1, y15.1, y16.1, y17.1, y18.1, y19.1⟩, y19.2)
def MsgT.ok (x : MsgT) : Prop := in64 x.kind ∧ NodeT.ok x.src ∧ NodeT.ok x.dst ∧ in64 x.boot ∧ in64 x.epoch ∧ PgT.ok x.pg ∧ in64 x.client ∧ in64 x.number ∧ in64 x.ballot ∧ okL SlotT.ok x.slots ∧ okL IncT.ok x.incs ∧ okL ChangeT.ok x.changes ∧ InfoT.ok x.info ∧ StateT.ok x.state ∧ EntryT.ok x.entry ∧ ObjectT.ok x.object ∧ OpT.ok x.op ∧ okL ItemT.ok x.items ∧ okL (fun s : ByteArray => s.size < 4294967296) x.names ∧ in64 x.errno
set_option maxHeartbeats 6400000 in
theorem lawMsg : Law pMsg MsgT.enc MsgT.ok := by
  refine ⟨fun x rest hok => ?_, fun bs x rest h => ?_, fun x => by (unfold MsgT.enc; simp only [List.length_append, List.length_nil, encI_length, bB_length, leB_length, encT_length, encBy_length]); omega⟩
  · obtain ⟨o0, o1, o2, o3, o4, o5, o6, o7, o8, o9, o10, o11, o12, o13, o14, o15, o16, o17, o18, o19⟩ := hok
    (unfold pMsg MsgT.enc; simp only [List.nil_append, List.append_assoc])
    rw [lawI.enc _ _ o0]
    simp only [Option.bind_some]
    rw [lawNode.enc _ _ o1]
    simp only [Option.bind_some]
    rw [lawNode.enc _ _ o2]
    simp only [Option.bind_some]
    rw [lawI.enc _ _ o3]
    simp only [Option.bind_some]
    rw [lawI.enc _ _ o4]
    simp only [Option.bind_some]
    rw [lawPg.enc _ _ o5]
    simp only [Option.bind_some]
    rw [lawI.enc _ _ o6]
    simp only [Option.bind_some]
    rw [lawI.enc _ _ o7]
    simp only [Option.bind_some]
    rw [lawI.enc _ _ o8]
    simp only [Option.bind_some]
    rw [pL_enc lawSlot _ _ o9]
    simp only [Option.bind_some]
    rw [pL_enc lawInc _ _ o10]
    simp only [Option.bind_some]
    rw [pL_enc lawChange _ _ o11]
    simp only [Option.bind_some]
    rw [lawInfo.enc _ _ o12]
    simp only [Option.bind_some]
    rw [lawState.enc _ _ o13]
    simp only [Option.bind_some]
    rw [lawEntry.enc _ _ o14]
    simp only [Option.bind_some]
    rw [lawObject.enc _ _ o15]
    simp only [Option.bind_some]
    rw [lawOp.enc _ _ o16]
    simp only [Option.bind_some]
    rw [pL_enc lawItem _ _ o17]
    simp only [Option.bind_some]
    rw [pL_enc lawT _ _ o18]
    simp only [Option.bind_some]
    rw [lawI.enc _ _ o19]
    simp only [Option.bind_some]
  · (unfold pMsg at h)
    obtain ⟨⟨x0, r0⟩, h0, h⟩ := Option.bind_eq_some_iff.1 h
    obtain ⟨⟨x1, r1⟩, h1, h⟩ := Option.bind_eq_some_iff.1 h
    obtain ⟨⟨x2, r2⟩, h2, h⟩ := Option.bind_eq_some_iff.1 h
    obtain ⟨⟨x3, r3⟩, h3, h⟩ := Option.bind_eq_some_iff.1 h
    obtain ⟨⟨x4, r4⟩, h4, h⟩ := Option.bind_eq_some_iff.1 h
    obtain ⟨⟨x5, r5⟩, h5, h⟩ := Option.bind_eq_some_iff.1 h
    obtain ⟨⟨x6, r6⟩, h6, h⟩ := Option.bind_eq_some_iff.1 h
    obtain ⟨⟨x7, r7⟩, h7, h⟩ := Option.bind_eq_some_iff.1 h
    obtain ⟨⟨x8, r8⟩, h8, h⟩ := Option.bind_eq_some_iff.1 h
    obtain ⟨⟨x9, r9⟩, h9, h⟩ := Option.bind_eq_some_iff.1 h
    obtain ⟨⟨x10, r10⟩, h10, h⟩ := Option.bind_eq_some_iff.1 h
    obtain ⟨⟨x11, r11⟩, h11, h⟩ := Option.bind_eq_some_iff.1 h
    obtain ⟨⟨x12, r12⟩, h12, h⟩ := Option.bind_eq_some_iff.1 h
    obtain ⟨⟨x13, r13⟩, h13, h⟩ := Option.bind_eq_some_iff.1 h
    obtain ⟨⟨x14, r14⟩, h14, h⟩ := Option.bind_eq_some_iff.1 h
    obtain ⟨⟨x15, r15⟩, h15, h⟩ := Option.bind_eq_some_iff.1 h
    obtain ⟨⟨x16, r16⟩, h16, h⟩ := Option.bind_eq_some_iff.1 h
    obtain ⟨⟨x17, r17⟩, h17, h⟩ := Option.bind_eq_some_iff.1 h
    obtain ⟨⟨x18, r18⟩, h18, h⟩ := Option.bind_eq_some_iff.1 h
    obtain ⟨⟨x19, r19⟩, h19, h⟩ := Option.bind_eq_some_iff.1 h
    simp only [Option.some.injEq, Prod.mk.injEq] at h
    obtain ⟨rfl, rfl⟩ := h
    obtain ⟨e0, o0⟩ := lawI.dec _ _ _ h0
    obtain ⟨e1, o1⟩ := lawNode.dec _ _ _ h1
    obtain ⟨e2, o2⟩ := lawNode.dec _ _ _ h2
    obtain ⟨e3, o3⟩ := lawI.dec _ _ _ h3
    obtain ⟨e4, o4⟩ := lawI.dec _ _ _ h4
    obtain ⟨e5, o5⟩ := lawPg.dec _ _ _ h5
    obtain ⟨e6, o6⟩ := lawI.dec _ _ _ h6
    obtain ⟨e7, o7⟩ := lawI.dec _ _ _ h7
    obtain ⟨e8, o8⟩ := lawI.dec _ _ _ h8
    obtain ⟨e9, o9⟩ := pL_dec lawSlot h9
    obtain ⟨e10, o10⟩ := pL_dec lawInc h10
    obtain ⟨e11, o11⟩ := pL_dec lawChange h11
    obtain ⟨e12, o12⟩ := lawInfo.dec _ _ _ h12
    obtain ⟨e13, o13⟩ := lawState.dec _ _ _ h13
    obtain ⟨e14, o14⟩ := lawEntry.dec _ _ _ h14
    obtain ⟨e15, o15⟩ := lawObject.dec _ _ _ h15
    obtain ⟨e16, o16⟩ := lawOp.dec _ _ _ h16
    obtain ⟨e17, o17⟩ := pL_dec lawItem h17
    obtain ⟨e18, o18⟩ := pL_dec lawT h18
    obtain ⟨e19, o19⟩ := lawI.dec _ _ _ h19
    simp only at e1 e2 e3 e4 e5 e6 e7 e8 e9 e10 e11 e12 e13 e14 e15 e16 e17 e18 e19
    exact ⟨by rw [e0, e1, e2, e3, e4, e5, e6, e7, e8, e9, e10, e11, e12, e13, e14, e15, e16, e17, e18, e19]; (unfold MsgT.enc; simp only [List.nil_append, List.append_assoc]), o0, o1, o2, o3, o4, o5, o6, o7, o8, o9, o10, o11, o12, o13, o14, o15, o16, o17, o18, o19⟩
theorem MsgT.stable : Stable MsgT.Is := fun _ _ _ _ _ _ h h1 h2 => MsgT.Is.heap h h1 h2
set_option maxHeartbeats 6400000 in
theorem MsgT.Is.ok {w : World} {S : Nat → Prop} {cs : List Value} {x : MsgT} (h : MsgT.Is w S cs x) (hl : x.enc.length < 4294967296) : x.ok := by
  obtain ⟨v_slots, v_incs, v_changes, v_state_log, v_state_lasts, v_state_items, v_object_data, v_op_data, v_items, v_names, rfl, i0, i1, i2, i3, i4, i5, i6, i7, i8, i9, i10, i11, i12, i13, i14, i15, i16, i17, i18, i19, i20, i21, i22, i23, i24, i25, i26, i27, i28, i29, i30, i31, l0, l1, l2, l3, l4, l5, l6, l7, l8, l9⟩ := h
  (unfold MsgT.enc at hl; simp only [NodeT.enc, PgT.enc, InfoT.enc, VersionT.enc, StateT.enc, EntryT.enc, ObjectT.enc, OpT.enc, List.length_append, List.length_nil, encI_length, bB_length, leB_length, encT_length, encBy_length] at hl)
  exact ⟨i0, ⟨i1, i2⟩, ⟨i3, i4⟩, i5, i6, ⟨i7, i8⟩, i9, i10, i11, okL_of l0 (fun _ _ h hl => SlotT.Is.ok h hl) lawSlot.pos (by omega), okL_of l1 (fun _ _ h hl => IncT.Is.ok h hl) lawInc.pos (by omega), okL_of l2 (fun _ _ h hl => ChangeT.Is.ok h hl) lawChange.pos (by omega), ⟨i12, ⟨i13, i14⟩, ⟨i15, i16⟩, i17⟩, ⟨i18, ⟨i19, i20⟩, okL_of l3 (fun _ _ h hl => EntryT.Is.ok h hl) lawEntry.pos (by omega), okL_of l4 (fun _ _ h hl => LastT.Is.ok h hl) lawLast.pos (by omega), okL_of l5 (fun _ _ h hl => ItemT.Is.ok h hl) lawItem.pos (by omega)⟩, ⟨⟨i21, i22⟩, i23, by omega, i24, i25⟩, ⟨by omega, ⟨i26, i27⟩, by omega⟩, ⟨i28, by omega, by omega, ⟨i29, i30⟩⟩, okL_of l8 (fun _ _ h hl => ItemT.Is.ok h hl) lawItem.pos (by omega), okL_of l9 (fun _ _ h hl => by rw [encT_length] at hl; omega) lawT.pos (by omega), i31⟩

end Go.Proofs.YtanmfldgillodaaGreat
