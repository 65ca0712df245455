/- Parsers of the structs of a map, and their laws. -/
import Derived.Test.YtanmfldgillodaaGreatRgl
set_option linter.unusedSimpArgs false
set_option linter.unusedVariables false
namespace Go.Proofs.YtanmfldgillodaaGreat
open Go.RowKit

theorem flat_mem_le {α : Type} {e : α → List UInt8} {xs : List α} {x : α} (h : x ∈ xs) : (e x).length ≤ (xs.flatMap e).length := by
  induction xs with
  | nil => cases h
  | cons a r ih =>
    rw [List.flatMap_cons, List.length_append]
    rcases List.mem_cons.1 h with rfl | h
    · omega
    · have := ih h; omega

theorem okL_of {α : Type} {size : Nat} {R : World → (Nat → Prop) → List Value → α → Prop} {ok : α → Prop} {e : α → List UInt8} {w : World} {S : Nat → Prop} {v : Value} {xs : List α} (h : ListIs size R w S v xs) (hR : ∀ cs x, R w S cs x → (e x).length < 4294967296 → ok x) (hp : ∀ x, 0 < (e x).length) (hl : (xs.flatMap e).length < 4294967296) : okL ok xs := by
  obtain ⟨a, c, rfl, h1, h2, h3⟩ := h
  refine ⟨by have := flat_len_le hp xs; omega, fun x hx => ?_⟩
  obtain ⟨k, hk⟩ := List.getElem?_of_mem hx
  obtain ⟨b, off, cs, -, -, -, -, hr⟩ := h3 k x hk
  exact hR cs x hr (by have := flat_mem_le (e := e) hx; omega)

def pOsd : Pr OsdT := fun bs => (pF bs).bind fun y0 => (pF y0.2).bind fun y1 => (pI y1.2).bind fun y2 => (pI y2.2).bind fun y3 => (pI y3.2).bind fun y4 => (pI y4.2).bind fun y5 => some (⟨y0.1, y1.1, y2.1, y3.1, y4.1, y5.1⟩, y5.2)
def OsdT.ok (x : OsdT) : Prop := in64 x.weight ∧ in64 x.boot ∧ in64 x.upFrom ∧ in64 x.upThru
theorem lawOsd : Law pOsd OsdT.enc OsdT.ok := by
  refine ⟨fun x rest hok => ?_, fun bs x rest h => ?_, fun x => by simp only [OsdT.enc, List.length_append, List.length_nil, encI_length, bB_length, leB_length]; omega⟩
  · obtain ⟨o2, o3, o4, o5⟩ := hok
    simp only [pOsd, OsdT.enc, List.nil_append, List.append_assoc]
    rw [lawF.enc _ _ trivial]
    simp only [Option.bind_some]
    rw [lawF.enc _ _ trivial]
    simp only [Option.bind_some]
    rw [lawI.enc _ _ o2]
    simp only [Option.bind_some]
    rw [lawI.enc _ _ o3]
    simp only [Option.bind_some]
    rw [lawI.enc _ _ o4]
    simp only [Option.bind_some]
    rw [lawI.enc _ _ o5]
    simp only [Option.bind_some]
  · simp only [pOsd] at h
    obtain ⟨⟨x0, r0⟩, h0, h⟩ := Option.bind_eq_some_iff.1 h
    obtain ⟨⟨x1, r1⟩, h1, h⟩ := Option.bind_eq_some_iff.1 h
    obtain ⟨⟨x2, r2⟩, h2, h⟩ := Option.bind_eq_some_iff.1 h
    obtain ⟨⟨x3, r3⟩, h3, h⟩ := Option.bind_eq_some_iff.1 h
    obtain ⟨⟨x4, r4⟩, h4, h⟩ := Option.bind_eq_some_iff.1 h
    obtain ⟨⟨x5, r5⟩, h5, h⟩ := Option.bind_eq_some_iff.1 h
    simp only [Option.some.injEq, Prod.mk.injEq] at h
    obtain ⟨rfl, rfl⟩ := h
    obtain ⟨e0, o0⟩ := lawF.dec _ _ _ h0
    obtain ⟨e1, o1⟩ := lawF.dec _ _ _ h1
    obtain ⟨e2, o2⟩ := lawI.dec _ _ _ h2
    obtain ⟨e3, o3⟩ := lawI.dec _ _ _ h3
    obtain ⟨e4, o4⟩ := lawI.dec _ _ _ h4
    obtain ⟨e5, o5⟩ := lawI.dec _ _ _ h5
    simp only at e1 e2 e3 e4 e5
    exact ⟨by rw [e0, e1, e2, e3, e4, e5]; simp only [OsdT.enc, List.nil_append, List.append_assoc], o2, o3, o4, o5⟩
theorem OsdT.stable : Stable OsdT.Is := fun _ _ _ _ _ _ h _ _ => OsdT.Is.heap h
theorem OsdT.Is.ok {w : World} {S : Nat → Prop} {cs : List Value} {x : OsdT} (h : OsdT.Is w S cs x) (hl : x.enc.length < 4294967296) : x.ok := by
  obtain ⟨rfl, i0, i1, i2, i3⟩ := h
  simp only [OsdT.enc, List.length_append] at hl
  exact ⟨i0, i1, i2, i3⟩

def pPool : Pr PoolT := fun bs => (pI bs).bind fun y0 => (pI y0.2).bind fun y1 => (pI y1.2).bind fun y2 => (pI y2.2).bind fun y3 => some (⟨y0.1, y1.1, y2.1, y3.1⟩, y3.2)
def PoolT.ok (x : PoolT) : Prop := in64 x.id ∧ in64 x.size ∧ in64 x.min ∧ in64 x.pgs
theorem lawPool : Law pPool PoolT.enc PoolT.ok := by
  refine ⟨fun x rest hok => ?_, fun bs x rest h => ?_, fun x => by simp only [PoolT.enc, List.length_append, List.length_nil, encI_length, bB_length, leB_length]; omega⟩
  · obtain ⟨o0, o1, o2, o3⟩ := hok
    simp only [pPool, PoolT.enc, List.nil_append, List.append_assoc]
    rw [lawI.enc _ _ o0]
    simp only [Option.bind_some]
    rw [lawI.enc _ _ o1]
    simp only [Option.bind_some]
    rw [lawI.enc _ _ o2]
    simp only [Option.bind_some]
    rw [lawI.enc _ _ o3]
    simp only [Option.bind_some]
  · simp only [pPool] at h
    obtain ⟨⟨x0, r0⟩, h0, h⟩ := Option.bind_eq_some_iff.1 h
    obtain ⟨⟨x1, r1⟩, h1, h⟩ := Option.bind_eq_some_iff.1 h
    obtain ⟨⟨x2, r2⟩, h2, h⟩ := Option.bind_eq_some_iff.1 h
    obtain ⟨⟨x3, r3⟩, h3, h⟩ := Option.bind_eq_some_iff.1 h
    simp only [Option.some.injEq, Prod.mk.injEq] at h
    obtain ⟨rfl, rfl⟩ := h
    obtain ⟨e0, o0⟩ := lawI.dec _ _ _ h0
    obtain ⟨e1, o1⟩ := lawI.dec _ _ _ h1
    obtain ⟨e2, o2⟩ := lawI.dec _ _ _ h2
    obtain ⟨e3, o3⟩ := lawI.dec _ _ _ h3
    simp only at e1 e2 e3
    exact ⟨by rw [e0, e1, e2, e3]; simp only [PoolT.enc, List.nil_append, List.append_assoc], o0, o1, o2, o3⟩
theorem PoolT.stable : Stable PoolT.Is := fun _ _ _ _ _ _ h _ _ => PoolT.Is.heap h
theorem PoolT.Is.ok {w : World} {S : Nat → Prop} {cs : List Value} {x : PoolT} (h : PoolT.Is w S cs x) (hl : x.enc.length < 4294967296) : x.ok := by
  obtain ⟨rfl, i0, i1, i2, i3⟩ := h
  simp only [PoolT.enc, List.length_append] at hl
  exact ⟨i0, i1, i2, i3⟩

def pBucket : Pr BucketT := fun bs => (pI bs).bind fun y0 => (pI y0.2).bind fun y1 => (pL pI y1.2).bind fun y2 => (pL pI y2.2).bind fun y3 => some (⟨y0.1, y1.1, y2.1, y3.1⟩, y3.2)
def BucketT.ok (x : BucketT) : Prop := in64 x.id ∧ in64 x.kind ∧ okL in64 x.items ∧ okL in64 x.weights
theorem lawBucket : Law pBucket BucketT.enc BucketT.ok := by
  refine ⟨fun x rest hok => ?_, fun bs x rest h => ?_, fun x => by simp only [BucketT.enc, List.length_append, List.length_nil, encI_length, bB_length, leB_length]; omega⟩
  · obtain ⟨o0, o1, o2, o3⟩ := hok
    simp only [pBucket, BucketT.enc, List.nil_append, List.append_assoc]
    rw [lawI.enc _ _ o0]
    simp only [Option.bind_some]
    rw [lawI.enc _ _ o1]
    simp only [Option.bind_some]
    rw [pL_enc lawI _ _ o2]
    simp only [Option.bind_some]
    rw [pL_enc lawI _ _ o3]
    simp only [Option.bind_some]
  · simp only [pBucket] at h
    obtain ⟨⟨x0, r0⟩, h0, h⟩ := Option.bind_eq_some_iff.1 h
    obtain ⟨⟨x1, r1⟩, h1, h⟩ := Option.bind_eq_some_iff.1 h
    obtain ⟨⟨x2, r2⟩, h2, h⟩ := Option.bind_eq_some_iff.1 h
    obtain ⟨⟨x3, r3⟩, h3, h⟩ := Option.bind_eq_some_iff.1 h
    simp only [Option.some.injEq, Prod.mk.injEq] at h
    obtain ⟨rfl, rfl⟩ := h
    obtain ⟨e0, o0⟩ := lawI.dec _ _ _ h0
    obtain ⟨e1, o1⟩ := lawI.dec _ _ _ h1
    obtain ⟨e2, o2⟩ := pL_dec lawI h2
    obtain ⟨e3, o3⟩ := pL_dec lawI h3
    simp only at e1 e2 e3
    exact ⟨by rw [e0, e1, e2, e3]; simp only [BucketT.enc, List.nil_append, List.append_assoc], o0, o1, o2, o3⟩
theorem BucketT.stable : Stable BucketT.Is := fun _ _ _ _ _ _ h h1 h2 => BucketT.Is.heap h h1 h2
theorem BucketT.Is.ok {w : World} {S : Nat → Prop} {cs : List Value} {x : BucketT} (h : BucketT.Is w S cs x) (hl : x.enc.length < 4294967296) : x.ok := by
  obtain ⟨v_items, v_weights, rfl, i0, i1, l0, l1⟩ := h
  simp only [BucketT.enc, List.length_append] at hl
  exact ⟨i0, i1, okL_of l0 (fun _ _ h _ => h.2) lawI.pos (by omega), okL_of l1 (fun _ _ h _ => h.2) lawI.pos (by omega)⟩

def pChange : Pr ChangeT := fun bs => (pI bs).bind fun y0 => (pI y0.2).bind fun y1 => (pI y1.2).bind fun y2 => (pPool y2.2).bind fun y3 => (pBucket y3.2).bind fun y4 => some (⟨y0.1, y1.1, y2.1, y3.1, y4.1⟩, y4.2)
def ChangeT.ok (x : ChangeT) : Prop := in64 x.kind ∧ in64 x.osd ∧ in64 x.value ∧ PoolT.ok x.pool ∧ BucketT.ok x.bucket
theorem lawChange : Law pChange ChangeT.enc ChangeT.ok := by
  refine ⟨fun x rest hok => ?_, fun bs x rest h => ?_, fun x => by simp only [ChangeT.enc, List.length_append, List.length_nil, encI_length, bB_length, leB_length]; omega⟩
  · obtain ⟨o0, o1, o2, o3, o4⟩ := hok
    simp only [pChange, ChangeT.enc, List.nil_append, List.append_assoc]
    rw [lawI.enc _ _ o0]
    simp only [Option.bind_some]
    rw [lawI.enc _ _ o1]
    simp only [Option.bind_some]
    rw [lawI.enc _ _ o2]
    simp only [Option.bind_some]
    rw [lawPool.enc _ _ o3]
    simp only [Option.bind_some]
    rw [lawBucket.enc _ _ o4]
    simp only [Option.bind_some]
  · simp only [pChange] at h
    obtain ⟨⟨x0, r0⟩, h0, h⟩ := Option.bind_eq_some_iff.1 h
    obtain ⟨⟨x1, r1⟩, h1, h⟩ := Option.bind_eq_some_iff.1 h
    obtain ⟨⟨x2, r2⟩, h2, h⟩ := Option.bind_eq_some_iff.1 h
    obtain ⟨⟨x3, r3⟩, h3, h⟩ := Option.bind_eq_some_iff.1 h
    obtain ⟨⟨x4, r4⟩, h4, h⟩ := Option.bind_eq_some_iff.1 h
    simp only [Option.some.injEq, Prod.mk.injEq] at h
    obtain ⟨rfl, rfl⟩ := h
    obtain ⟨e0, o0⟩ := lawI.dec _ _ _ h0
    obtain ⟨e1, o1⟩ := lawI.dec _ _ _ h1
    obtain ⟨e2, o2⟩ := lawI.dec _ _ _ h2
    obtain ⟨e3, o3⟩ := lawPool.dec _ _ _ h3
    obtain ⟨e4, o4⟩ := lawBucket.dec _ _ _ h4
    simp only at e1 e2 e3 e4
    exact ⟨by rw [e0, e1, e2, e3, e4]; simp only [ChangeT.enc, List.nil_append, List.append_assoc], o0, o1, o2, o3, o4⟩
theorem ChangeT.stable : Stable ChangeT.Is := fun _ _ _ _ _ _ h h1 h2 => ChangeT.Is.heap h h1 h2
theorem ChangeT.Is.ok {w : World} {S : Nat → Prop} {cs : List Value} {x : ChangeT} (h : ChangeT.Is w S cs x) (hl : x.enc.length < 4294967296) : x.ok := by
  obtain ⟨v_bucket_items, v_bucket_weights, rfl, i0, i1, i2, i3, i4, i5, i6, i7, i8, l0, l1⟩ := h
  simp only [ChangeT.enc, PoolT.enc, BucketT.enc, List.length_append] at hl
  exact ⟨i0, i1, i2, ⟨i3, i4, i5, i6⟩, ⟨i7, i8, okL_of l0 (fun _ _ h _ => h.2) lawI.pos (by omega), okL_of l1 (fun _ _ h _ => h.2) lawI.pos (by omega)⟩⟩

def pMap : Pr MapT := fun bs => (pI bs).bind fun y0 => (pL pOsd y0.2).bind fun y1 => (pL pPool y1.2).bind fun y2 => (pL pBucket y2.2).bind fun y3 => (pI y3.2).bind fun y4 => some (⟨y0.1, y1.1, y2.1, y3.1, y4.1⟩, y4.2)
def MapT.ok (x : MapT) : Prop := in64 x.epoch ∧ okL OsdT.ok x.osds ∧ okL PoolT.ok x.pools ∧ okL BucketT.ok x.buckets ∧ in64 x.leaf
theorem lawMap : Law pMap MapT.enc MapT.ok := by
  refine ⟨fun x rest hok => ?_, fun bs x rest h => ?_, fun x => by simp only [MapT.enc, List.length_append, List.length_nil, encI_length, bB_length, leB_length]; omega⟩
  · obtain ⟨o0, o1, o2, o3, o4⟩ := hok
    simp only [pMap, MapT.enc, List.nil_append, List.append_assoc]
    rw [lawI.enc _ _ o0]
    simp only [Option.bind_some]
    rw [pL_enc lawOsd _ _ o1]
    simp only [Option.bind_some]
    rw [pL_enc lawPool _ _ o2]
    simp only [Option.bind_some]
    rw [pL_enc lawBucket _ _ o3]
    simp only [Option.bind_some]
    rw [lawI.enc _ _ o4]
    simp only [Option.bind_some]
  · simp only [pMap] at h
    obtain ⟨⟨x0, r0⟩, h0, h⟩ := Option.bind_eq_some_iff.1 h
    obtain ⟨⟨x1, r1⟩, h1, h⟩ := Option.bind_eq_some_iff.1 h
    obtain ⟨⟨x2, r2⟩, h2, h⟩ := Option.bind_eq_some_iff.1 h
    obtain ⟨⟨x3, r3⟩, h3, h⟩ := Option.bind_eq_some_iff.1 h
    obtain ⟨⟨x4, r4⟩, h4, h⟩ := Option.bind_eq_some_iff.1 h
    simp only [Option.some.injEq, Prod.mk.injEq] at h
    obtain ⟨rfl, rfl⟩ := h
    obtain ⟨e0, o0⟩ := lawI.dec _ _ _ h0
    obtain ⟨e1, o1⟩ := pL_dec lawOsd h1
    obtain ⟨e2, o2⟩ := pL_dec lawPool h2
    obtain ⟨e3, o3⟩ := pL_dec lawBucket h3
    obtain ⟨e4, o4⟩ := lawI.dec _ _ _ h4
    simp only at e1 e2 e3 e4
    exact ⟨by rw [e0, e1, e2, e3, e4]; simp only [MapT.enc, List.nil_append, List.append_assoc], o0, o1, o2, o3, o4⟩
theorem MapT.stable : Stable MapT.Is := fun _ _ _ _ _ _ h h1 h2 => MapT.Is.heap h h1 h2
theorem MapT.Is.ok {w : World} {S : Nat → Prop} {cs : List Value} {x : MapT} (h : MapT.Is w S cs x) (hl : x.enc.length < 4294967296) : x.ok := by
  obtain ⟨v_osds, v_pools, v_buckets, rfl, i0, i1, l0, l1, l2⟩ := h
  simp only [MapT.enc, List.length_append] at hl
  exact ⟨i0, okL_of l0 (fun _ _ h hl => OsdT.Is.ok h hl) lawOsd.pos (by omega), okL_of l1 (fun _ _ h hl => PoolT.Is.ok h hl) lawPool.pos (by omega), okL_of l2 (fun _ _ h hl => BucketT.Is.ok h hl) lawBucket.pos (by omega), i1⟩

def pInc : Pr IncT := fun bs => (pI bs).bind fun y0 => (pL pChange y0.2).bind fun y1 => some (⟨y0.1, y1.1⟩, y1.2)
def IncT.ok (x : IncT) : Prop := in64 x.epoch ∧ okL ChangeT.ok x.changes
theorem lawInc : Law pInc IncT.enc IncT.ok := by
  refine ⟨fun x rest hok => ?_, fun bs x rest h => ?_, fun x => by simp only [IncT.enc, List.length_append, List.length_nil, encI_length, bB_length, leB_length]; omega⟩
  · obtain ⟨o0, o1⟩ := hok
    simp only [pInc, IncT.enc, List.nil_append, List.append_assoc]
    rw [lawI.enc _ _ o0]
    simp only [Option.bind_some]
    rw [pL_enc lawChange _ _ o1]
    simp only [Option.bind_some]
  · simp only [pInc] at h
    obtain ⟨⟨x0, r0⟩, h0, h⟩ := Option.bind_eq_some_iff.1 h
    obtain ⟨⟨x1, r1⟩, h1, h⟩ := Option.bind_eq_some_iff.1 h
    simp only [Option.some.injEq, Prod.mk.injEq] at h
    obtain ⟨rfl, rfl⟩ := h
    obtain ⟨e0, o0⟩ := lawI.dec _ _ _ h0
    obtain ⟨e1, o1⟩ := pL_dec lawChange h1
    simp only at e1
    exact ⟨by rw [e0, e1]; simp only [IncT.enc, List.nil_append, List.append_assoc], o0, o1⟩
theorem IncT.stable : Stable IncT.Is := fun _ _ _ _ _ _ h h1 h2 => IncT.Is.heap h h1 h2
theorem IncT.Is.ok {w : World} {S : Nat → Prop} {cs : List Value} {x : IncT} (h : IncT.Is w S cs x) (hl : x.enc.length < 4294967296) : x.ok := by
  obtain ⟨v_changes, rfl, i0, l0⟩ := h
  simp only [IncT.enc, List.length_append] at hl
  exact ⟨i0, okL_of l0 (fun _ _ h hl => ChangeT.Is.ok h hl) lawChange.pos (by omega)⟩

end Go.Proofs.YtanmfldgillodaaGreat
