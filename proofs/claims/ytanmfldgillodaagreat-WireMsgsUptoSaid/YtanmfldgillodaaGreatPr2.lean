/- Parsers of the structs, and their laws. -/
import Derived.Test.YtanmfldgillodaaGreatPut2
import Derived.Test.YtanmfldgillodaaGreatTr0
set_option linter.unusedSimpArgs false
set_option linter.unusedVariables false
namespace Go.Proofs.YtanmfldgillodaaGreat
open Go.RowKit

def pVersion : Pr VersionT := fun bs => (pI bs).bind fun y0 => (pI y0.2).bind fun y1 => some (⟨y0.1, y1.1⟩, y1.2)
def VersionT.ok (x : VersionT) : Prop := in64 x.epoch ∧ in64 x.n
theorem lawVersion : Law pVersion VersionT.enc VersionT.ok := by
  refine ⟨fun x rest hok => ?_, fun bs x rest h => ?_, fun x => by simp only [VersionT.enc, List.length_append, List.length_nil, encI_length, bB_length, leB_length, encT_length, encBy_length]; omega⟩
  · obtain ⟨o0, o1⟩ := hok
    simp only [pVersion, VersionT.enc, List.nil_append, List.append_assoc]
    rw [lawI.enc _ _ o0]
    simp only [Option.bind_some]
    rw [lawI.enc _ _ o1]
    simp only [Option.bind_some]
  · simp only [pVersion] at h
    obtain ⟨⟨x0, r0⟩, h0, h⟩ := Option.bind_eq_some_iff.1 h
    obtain ⟨⟨x1, r1⟩, h1, h⟩ := Option.bind_eq_some_iff.1 h
    simp only [Option.some.injEq, Prod.mk.injEq] at h
    obtain ⟨rfl, rfl⟩ := h
    obtain ⟨e0, o0⟩ := lawI.dec _ _ _ h0
    obtain ⟨e1, o1⟩ := lawI.dec _ _ _ h1
    simp only at e1
    exact ⟨by rw [e0, e1]; simp only [VersionT.enc, List.nil_append, List.append_assoc], o0, o1⟩
theorem VersionT.stable : Stable VersionT.Is := fun _ _ _ _ _ _ h _ _ => VersionT.Is.heap h
theorem VersionT.Is.ok {w : World} {S : Nat → Prop} {cs : List Value} {x : VersionT} (h : VersionT.Is w S cs x) (hl : x.enc.length < 4294967296) : x.ok := by
  obtain ⟨rfl, i0, i1⟩ := h
  simp only [VersionT.enc, List.length_append, List.length_nil, encI_length, bB_length, leB_length, encT_length, encBy_length] at hl
  exact ⟨i0, i1⟩

def pPg : Pr PgT := fun bs => (pI bs).bind fun y0 => (pI y0.2).bind fun y1 => some (⟨y0.1, y1.1⟩, y1.2)
def PgT.ok (x : PgT) : Prop := in64 x.pool ∧ in64 x.seed
theorem lawPg : Law pPg PgT.enc PgT.ok := by
  refine ⟨fun x rest hok => ?_, fun bs x rest h => ?_, fun x => by simp only [PgT.enc, List.length_append, List.length_nil, encI_length, bB_length, leB_length, encT_length, encBy_length]; omega⟩
  · obtain ⟨o0, o1⟩ := hok
    simp only [pPg, PgT.enc, List.nil_append, List.append_assoc]
    rw [lawI.enc _ _ o0]
    simp only [Option.bind_some]
    rw [lawI.enc _ _ o1]
    simp only [Option.bind_some]
  · simp only [pPg] at h
    obtain ⟨⟨x0, r0⟩, h0, h⟩ := Option.bind_eq_some_iff.1 h
    obtain ⟨⟨x1, r1⟩, h1, h⟩ := Option.bind_eq_some_iff.1 h
    simp only [Option.some.injEq, Prod.mk.injEq] at h
    obtain ⟨rfl, rfl⟩ := h
    obtain ⟨e0, o0⟩ := lawI.dec _ _ _ h0
    obtain ⟨e1, o1⟩ := lawI.dec _ _ _ h1
    simp only at e1
    exact ⟨by rw [e0, e1]; simp only [PgT.enc, List.nil_append, List.append_assoc], o0, o1⟩
theorem PgT.stable : Stable PgT.Is := fun _ _ _ _ _ _ h _ _ => PgT.Is.heap h
theorem PgT.Is.ok {w : World} {S : Nat → Prop} {cs : List Value} {x : PgT} (h : PgT.Is w S cs x) (hl : x.enc.length < 4294967296) : x.ok := by
  obtain ⟨rfl, i0, i1⟩ := h
  simp only [PgT.enc, List.length_append, List.length_nil, encI_length, bB_length, leB_length, encT_length, encBy_length] at hl
  exact ⟨i0, i1⟩

def pEntry : Pr EntryT := fun bs => (pVersion bs).bind fun y0 => (pF y0.2).bind fun y1 => (pI y1.2).bind fun y2 => (pT y2.2).bind fun y3 => (pI y3.2).bind fun y4 => (pI y4.2).bind fun y5 => some (⟨y0.1, y1.1, y2.1, y3.1, y4.1, y5.1⟩, y5.2)
def EntryT.ok (x : EntryT) : Prop := VersionT.ok x.version ∧ in64 x.errno ∧ x.name.size < 4294967296 ∧ in64 x.client ∧ in64 x.number
theorem lawEntry : Law pEntry EntryT.enc EntryT.ok := by
  refine ⟨fun x rest hok => ?_, fun bs x rest h => ?_, fun x => by have := lawVersion.pos x.version; simp only [EntryT.enc, List.length_append, List.length_nil, encI_length, bB_length, leB_length, encT_length, encBy_length]; omega⟩
  · obtain ⟨o0, o2, o3, o4, o5⟩ := hok
    simp only [pEntry, EntryT.enc, List.nil_append, List.append_assoc]
    rw [lawVersion.enc _ _ o0]
    simp only [Option.bind_some]
    rw [lawF.enc _ _ trivial]
    simp only [Option.bind_some]
    rw [lawI.enc _ _ o2]
    simp only [Option.bind_some]
    rw [lawT.enc _ _ o3]
    simp only [Option.bind_some]
    rw [lawI.enc _ _ o4]
    simp only [Option.bind_some]
    rw [lawI.enc _ _ o5]
    simp only [Option.bind_some]
  · simp only [pEntry] at h
    obtain ⟨⟨x0, r0⟩, h0, h⟩ := Option.bind_eq_some_iff.1 h
    obtain ⟨⟨x1, r1⟩, h1, h⟩ := Option.bind_eq_some_iff.1 h
    obtain ⟨⟨x2, r2⟩, h2, h⟩ := Option.bind_eq_some_iff.1 h
    obtain ⟨⟨x3, r3⟩, h3, h⟩ := Option.bind_eq_some_iff.1 h
    obtain ⟨⟨x4, r4⟩, h4, h⟩ := Option.bind_eq_some_iff.1 h
    obtain ⟨⟨x5, r5⟩, h5, h⟩ := Option.bind_eq_some_iff.1 h
    simp only [Option.some.injEq, Prod.mk.injEq] at h
    obtain ⟨rfl, rfl⟩ := h
    obtain ⟨e0, o0⟩ := lawVersion.dec _ _ _ h0
    obtain ⟨e1, o1⟩ := lawF.dec _ _ _ h1
    obtain ⟨e2, o2⟩ := lawI.dec _ _ _ h2
    obtain ⟨e3, o3⟩ := lawT.dec _ _ _ h3
    obtain ⟨e4, o4⟩ := lawI.dec _ _ _ h4
    obtain ⟨e5, o5⟩ := lawI.dec _ _ _ h5
    simp only at e1 e2 e3 e4 e5
    exact ⟨by rw [e0, e1, e2, e3, e4, e5]; simp only [EntryT.enc, List.nil_append, List.append_assoc], o0, o2, o3, o4, o5⟩
theorem EntryT.stable : Stable EntryT.Is := fun _ _ _ _ _ _ h _ _ => EntryT.Is.heap h
theorem EntryT.Is.ok {w : World} {S : Nat → Prop} {cs : List Value} {x : EntryT} (h : EntryT.Is w S cs x) (hl : x.enc.length < 4294967296) : x.ok := by
  obtain ⟨rfl, i0, i1, i2, i3, i4⟩ := h
  simp only [EntryT.enc, VersionT.enc, List.length_append, List.length_nil, encI_length, bB_length, leB_length, encT_length, encBy_length] at hl
  exact ⟨⟨i0, i1⟩, i2, by omega, i3, i4⟩

def pLast : Pr LastT := fun bs => (pI bs).bind fun y0 => (pI y0.2).bind fun y1 => (pI y1.2).bind fun y2 => (pVersion y2.2).bind fun y3 => some (⟨y0.1, y1.1, y2.1, y3.1⟩, y3.2)
def LastT.ok (x : LastT) : Prop := in64 x.client ∧ in64 x.number ∧ in64 x.errno ∧ VersionT.ok x.version
theorem lawLast : Law pLast LastT.enc LastT.ok := by
  refine ⟨fun x rest hok => ?_, fun bs x rest h => ?_, fun x => by simp only [LastT.enc, List.length_append, List.length_nil, encI_length, bB_length, leB_length, encT_length, encBy_length]; omega⟩
  · obtain ⟨o0, o1, o2, o3⟩ := hok
    simp only [pLast, LastT.enc, List.nil_append, List.append_assoc]
    rw [lawI.enc _ _ o0]
    simp only [Option.bind_some]
    rw [lawI.enc _ _ o1]
    simp only [Option.bind_some]
    rw [lawI.enc _ _ o2]
    simp only [Option.bind_some]
    rw [lawVersion.enc _ _ o3]
    simp only [Option.bind_some]
  · simp only [pLast] at h
    obtain ⟨⟨x0, r0⟩, h0, h⟩ := Option.bind_eq_some_iff.1 h
    obtain ⟨⟨x1, r1⟩, h1, h⟩ := Option.bind_eq_some_iff.1 h
    obtain ⟨⟨x2, r2⟩, h2, h⟩ := Option.bind_eq_some_iff.1 h
    obtain ⟨⟨x3, r3⟩, h3, h⟩ := Option.bind_eq_some_iff.1 h
    simp only [Option.some.injEq, Prod.mk.injEq] at h
    obtain ⟨rfl, rfl⟩ := h
    obtain ⟨e0, o0⟩ := lawI.dec _ _ _ h0
    obtain ⟨e1, o1⟩ := lawI.dec _ _ _ h1
    obtain ⟨e2, o2⟩ := lawI.dec _ _ _ h2
    obtain ⟨e3, o3⟩ := lawVersion.dec _ _ _ h3
    simp only at e1 e2 e3
    exact ⟨by rw [e0, e1, e2, e3]; simp only [LastT.enc, List.nil_append, List.append_assoc], o0, o1, o2, o3⟩
theorem LastT.stable : Stable LastT.Is := fun _ _ _ _ _ _ h _ _ => LastT.Is.heap h
theorem LastT.Is.ok {w : World} {S : Nat → Prop} {cs : List Value} {x : LastT} (h : LastT.Is w S cs x) (hl : x.enc.length < 4294967296) : x.ok := by
  obtain ⟨rfl, i0, i1, i2, i3, i4⟩ := h
  simp only [LastT.enc, VersionT.enc, List.length_append, List.length_nil, encI_length, bB_length, leB_length, encT_length, encBy_length] at hl
  exact ⟨i0, i1, i2, ⟨i3, i4⟩⟩

def pItem : Pr ItemT := fun bs => (pT bs).bind fun y0 => (pVersion y0.2).bind fun y1 => (pW 4 y1.2).bind fun y2 => some (⟨y0.1, y1.1, y2.1⟩, y2.2)
def ItemT.ok (x : ItemT) : Prop := x.name.size < 4294967296 ∧ VersionT.ok x.version ∧ x.crc < 4294967296
theorem lawItem : Law pItem ItemT.enc ItemT.ok := by
  refine ⟨fun x rest hok => ?_, fun bs x rest h => ?_, fun x => by simp only [ItemT.enc, List.length_append, List.length_nil, encI_length, bB_length, leB_length, encT_length, encBy_length]; omega⟩
  · obtain ⟨o0, o1, o2⟩ := hok
    simp only [pItem, ItemT.enc, List.nil_append, List.append_assoc]
    rw [lawT.enc _ _ o0]
    simp only [Option.bind_some]
    rw [lawVersion.enc _ _ o1]
    simp only [Option.bind_some]
    rw [lawW.enc _ _ o2]
    simp only [Option.bind_some]
  · simp only [pItem] at h
    obtain ⟨⟨x0, r0⟩, h0, h⟩ := Option.bind_eq_some_iff.1 h
    obtain ⟨⟨x1, r1⟩, h1, h⟩ := Option.bind_eq_some_iff.1 h
    obtain ⟨⟨x2, r2⟩, h2, h⟩ := Option.bind_eq_some_iff.1 h
    simp only [Option.some.injEq, Prod.mk.injEq] at h
    obtain ⟨rfl, rfl⟩ := h
    obtain ⟨e0, o0⟩ := lawT.dec _ _ _ h0
    obtain ⟨e1, o1⟩ := lawVersion.dec _ _ _ h1
    obtain ⟨e2, o2⟩ := lawW.dec _ _ _ h2
    simp only at e1 e2
    exact ⟨by rw [e0, e1, e2]; simp only [ItemT.enc, List.nil_append, List.append_assoc], o0, o1, o2⟩
theorem ItemT.stable : Stable ItemT.Is := fun _ _ _ _ _ _ h _ _ => ItemT.Is.heap h
theorem ItemT.Is.ok {w : World} {S : Nat → Prop} {cs : List Value} {x : ItemT} (h : ItemT.Is w S cs x) (hl : x.enc.length < 4294967296) : x.ok := by
  obtain ⟨rfl, i0, i1, i2⟩ := h
  simp only [ItemT.enc, VersionT.enc, List.length_append, List.length_nil, encI_length, bB_length, leB_length, encT_length, encBy_length] at hl
  exact ⟨by omega, ⟨i0, i1⟩, i2⟩

def pState : Pr StateT := fun bs => (pI bs).bind fun y0 => (pVersion y0.2).bind fun y1 => (pL pEntry y1.2).bind fun y2 => (pL pLast y2.2).bind fun y3 => (pL pItem y3.2).bind fun y4 => some (⟨y0.1, y1.1, y2.1, y3.1, y4.1⟩, y4.2)
def StateT.ok (x : StateT) : Prop := in64 x.les ∧ VersionT.ok x.tail ∧ okL EntryT.ok x.log ∧ okL LastT.ok x.lasts ∧ okL ItemT.ok x.items
theorem lawState : Law pState StateT.enc StateT.ok := by
  refine ⟨fun x rest hok => ?_, fun bs x rest h => ?_, fun x => by simp only [StateT.enc, List.length_append, List.length_nil, encI_length, bB_length, leB_length, encT_length, encBy_length]; omega⟩
  · obtain ⟨o0, o1, o2, o3, o4⟩ := hok
    simp only [pState, StateT.enc, List.nil_append, List.append_assoc]
    rw [lawI.enc _ _ o0]
    simp only [Option.bind_some]
    rw [lawVersion.enc _ _ o1]
    simp only [Option.bind_some]
    rw [pL_enc lawEntry _ _ o2]
    simp only [Option.bind_some]
    rw [pL_enc lawLast _ _ o3]
    simp only [Option.bind_some]
    rw [pL_enc lawItem _ _ o4]
    simp only [Option.bind_some]
  · simp only [pState] at h
    obtain ⟨⟨x0, r0⟩, h0, h⟩ := Option.bind_eq_some_iff.1 h
    obtain ⟨⟨x1, r1⟩, h1, h⟩ := Option.bind_eq_some_iff.1 h
    obtain ⟨⟨x2, r2⟩, h2, h⟩ := Option.bind_eq_some_iff.1 h
    obtain ⟨⟨x3, r3⟩, h3, h⟩ := Option.bind_eq_some_iff.1 h
    obtain ⟨⟨x4, r4⟩, h4, h⟩ := Option.bind_eq_some_iff.1 h
    simp only [Option.some.injEq, Prod.mk.injEq] at h
    obtain ⟨rfl, rfl⟩ := h
    obtain ⟨e0, o0⟩ := lawI.dec _ _ _ h0
    obtain ⟨e1, o1⟩ := lawVersion.dec _ _ _ h1
    obtain ⟨e2, o2⟩ := pL_dec lawEntry h2
    obtain ⟨e3, o3⟩ := pL_dec lawLast h3
    obtain ⟨e4, o4⟩ := pL_dec lawItem h4
    simp only at e1 e2 e3 e4
    exact ⟨by rw [e0, e1, e2, e3, e4]; simp only [StateT.enc, List.nil_append, List.append_assoc], o0, o1, o2, o3, o4⟩
theorem StateT.stable : Stable StateT.Is := fun _ _ _ _ _ _ h h1 h2 => StateT.Is.heap h h1 h2
theorem StateT.Is.ok {w : World} {S : Nat → Prop} {cs : List Value} {x : StateT} (h : StateT.Is w S cs x) (hl : x.enc.length < 4294967296) : x.ok := by
  obtain ⟨v_log, v_lasts, v_items, rfl, i0, i1, i2, l0, l1, l2⟩ := h
  simp only [StateT.enc, VersionT.enc, List.length_append, List.length_nil, encI_length, bB_length, leB_length, encT_length, encBy_length] at hl
  exact ⟨i0, ⟨i1, i2⟩, okL_of l0 (fun _ _ h hl => EntryT.Is.ok h hl) lawEntry.pos (by omega), okL_of l1 (fun _ _ h hl => LastT.Is.ok h hl) lawLast.pos (by omega), okL_of l2 (fun _ _ h hl => ItemT.Is.ok h hl) lawItem.pos (by omega)⟩

def pStep : Pr StepT := fun bs => (pI bs).bind fun y0 => (pPg y0.2).bind fun y1 => (pT y1.2).bind fun y2 => (pI y2.2).bind fun y3 => (pI y3.2).bind fun y4 => (pT y4.2).bind fun y5 => (pB y5.2).bind fun y6 => some (⟨y0.1, y1.1, y2.1, y3.1, y4.1, y5.1, y6.1⟩, y6.2)
def StepT.ok (x : StepT) : Prop := in64 x.kind ∧ PgT.ok x.pg ∧ x.name.size < 4294967296 ∧ in64 x.pos ∧ in64 x.n ∧ x.key.size < 4294967296 ∧ x.data.length < 4294967296
theorem lawStep : Law pStep StepT.enc StepT.ok := by
  refine ⟨fun x rest hok => ?_, fun bs x rest h => ?_, fun x => by simp only [StepT.enc, List.length_append, List.length_nil, encI_length, bB_length, leB_length, encT_length, encBy_length]; omega⟩
  · obtain ⟨o0, o1, o2, o3, o4, o5, o6⟩ := hok
    simp only [pStep, StepT.enc, List.nil_append, List.append_assoc]
    rw [lawI.enc _ _ o0]
    simp only [Option.bind_some]
    rw [lawPg.enc _ _ o1]
    simp only [Option.bind_some]
    rw [lawT.enc _ _ o2]
    simp only [Option.bind_some]
    rw [lawI.enc _ _ o3]
    simp only [Option.bind_some]
    rw [lawI.enc _ _ o4]
    simp only [Option.bind_some]
    rw [lawT.enc _ _ o5]
    simp only [Option.bind_some]
    rw [lawB.enc _ _ o6]
    simp only [Option.bind_some]
  · simp only [pStep] at h
    obtain ⟨⟨x0, r0⟩, h0, h⟩ := Option.bind_eq_some_iff.1 h
    obtain ⟨⟨x1, r1⟩, h1, h⟩ := Option.bind_eq_some_iff.1 h
    obtain ⟨⟨x2, r2⟩, h2, h⟩ := Option.bind_eq_some_iff.1 h
    obtain ⟨⟨x3, r3⟩, h3, h⟩ := Option.bind_eq_some_iff.1 h
    obtain ⟨⟨x4, r4⟩, h4, h⟩ := Option.bind_eq_some_iff.1 h
    obtain ⟨⟨x5, r5⟩, h5, h⟩ := Option.bind_eq_some_iff.1 h
    obtain ⟨⟨x6, r6⟩, h6, h⟩ := Option.bind_eq_some_iff.1 h
    simp only [Option.some.injEq, Prod.mk.injEq] at h
    obtain ⟨rfl, rfl⟩ := h
    obtain ⟨e0, o0⟩ := lawI.dec _ _ _ h0
    obtain ⟨e1, o1⟩ := lawPg.dec _ _ _ h1
    obtain ⟨e2, o2⟩ := lawT.dec _ _ _ h2
    obtain ⟨e3, o3⟩ := lawI.dec _ _ _ h3
    obtain ⟨e4, o4⟩ := lawI.dec _ _ _ h4
    obtain ⟨e5, o5⟩ := lawT.dec _ _ _ h5
    obtain ⟨e6, o6⟩ := lawB.dec _ _ _ h6
    simp only at e1 e2 e3 e4 e5 e6
    exact ⟨by rw [e0, e1, e2, e3, e4, e5, e6]; simp only [StepT.enc, List.nil_append, List.append_assoc], o0, o1, o2, o3, o4, o5, o6⟩
theorem StepT.stable : Stable StepT.Is := fun _ _ _ _ _ _ h h1 h2 => StepT.Is.heap h h1 h2
theorem StepT.Is.ok {w : World} {S : Nat → Prop} {cs : List Value} {x : StepT} (h : StepT.Is w S cs x) (hl : x.enc.length < 4294967296) : x.ok := by
  obtain ⟨v_data, rfl, i0, i1, i2, i3, i4, l0⟩ := h
  simp only [StepT.enc, PgT.enc, List.length_append, List.length_nil, encI_length, bB_length, leB_length, encT_length, encBy_length] at hl
  exact ⟨i0, ⟨i1, i2⟩, by omega, i3, i4, by omega, by omega⟩

def pTx : Pr TxT := fun bs => (pL pStep bs).bind fun y0 => some (⟨y0.1⟩, y0.2)
def TxT.ok (x : TxT) : Prop := okL StepT.ok x.steps
theorem lawTx : Law pTx TxT.enc TxT.ok := by
  refine ⟨fun x rest hok => ?_, fun bs x rest h => ?_, fun x => by simp only [TxT.enc, List.length_append, List.length_nil, encI_length, bB_length, leB_length, encT_length, encBy_length]; omega⟩
  · have o0 := hok
    simp only [pTx, TxT.enc, List.nil_append, List.append_assoc]
    rw [pL_enc lawStep _ _ o0]
    simp only [Option.bind_some]
  · simp only [pTx] at h
    obtain ⟨⟨x0, r0⟩, h0, h⟩ := Option.bind_eq_some_iff.1 h
    simp only [Option.some.injEq, Prod.mk.injEq] at h
    obtain ⟨rfl, rfl⟩ := h
    obtain ⟨e0, o0⟩ := pL_dec lawStep h0
    exact ⟨by rw [e0]; simp only [TxT.enc, List.nil_append, List.append_assoc], o0⟩
theorem TxT.stable : Stable TxT.Is := fun _ _ _ _ _ _ h h1 h2 => TxT.Is.heap h h1 h2
theorem TxT.Is.ok {w : World} {S : Nat → Prop} {cs : List Value} {x : TxT} (h : TxT.Is w S cs x) (hl : x.enc.length < 4294967296) : x.ok := by
  obtain ⟨v_steps, rfl, l0⟩ := h
  simp only [TxT.enc, List.length_append, List.length_nil, encI_length, bB_length, leB_length, encT_length, encBy_length] at hl
  exact okL_of l0 (fun _ _ h hl => StepT.Is.ok h hl) lawStep.pos (by omega)

end Go.Proofs.YtanmfldgillodaaGreat
