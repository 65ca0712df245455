/- Contracts of mix, in the program and in the reference. -/
import Derived.Test.YtfikkjdffmchfaaRows
import Derived.Test.YtfikkjdffmchfaaLib
set_option linter.unusedSimpArgs false
set_option linter.unusedVariables false
namespace Go.Proofs.Ytfikkjdffmchfaa
open Go.RowKit

theorem ix0 (w : World) : (Instr.index 81 (.agg #[.int .i64 13, .int .i64 8, .int .i64 13, .int .i64 12, .int .i64 16, .int .i64 5, .int .i64 3, .int .i64 10, .int .i64 15]) (.int .i64 0)).run Try.prog w = .ok (.agg #[.int .i64 13, .int .i64 8, .int .i64 13]) w := rfl
theorem ix1 (w : World) : (Instr.index 81 (.agg #[.int .i64 13, .int .i64 8, .int .i64 13, .int .i64 12, .int .i64 16, .int .i64 5, .int .i64 3, .int .i64 10, .int .i64 15]) (.int .i64 1)).run Try.prog w = .ok (.agg #[.int .i64 12, .int .i64 16, .int .i64 5]) w := rfl
theorem ix2 (w : World) : (Instr.index 81 (.agg #[.int .i64 13, .int .i64 8, .int .i64 13, .int .i64 12, .int .i64 16, .int .i64 5, .int .i64 3, .int .i64 10, .int .i64 15]) (.int .i64 2)).run Try.prog w = .ok (.agg #[.int .i64 3, .int .i64 10, .int .i64 15]) w := rfl
theorem ux0 (w : World) : (Instr.index 83 (.agg #[.int .u64 13, .int .u64 8, .int .u64 13, .int .u64 12, .int .u64 16, .int .u64 5, .int .u64 3, .int .u64 10, .int .u64 15]) (.int .i64 0)).run Try.prog w = .ok (.agg #[.int .u64 13, .int .u64 8, .int .u64 13]) w := rfl
theorem ux1 (w : World) : (Instr.index 83 (.agg #[.int .u64 13, .int .u64 8, .int .u64 13, .int .u64 12, .int .u64 16, .int .u64 5, .int .u64 3, .int .u64 10, .int .u64 15]) (.int .i64 1)).run Try.prog w = .ok (.agg #[.int .u64 12, .int .u64 16, .int .u64 5]) w := rfl
theorem ux2 (w : World) : (Instr.index 83 (.agg #[.int .u64 13, .int .u64 8, .int .u64 13, .int .u64 12, .int .u64 16, .int .u64 5, .int .u64 3, .int .u64 10, .int .u64 15]) (.int .i64 2)).run Try.prog w = .ok (.agg #[.int .u64 3, .int .u64 10, .int .u64 15]) w := rfl

/-- A trio of words. -/
structure Trio where
  x : Int
  y : Int
  z : Int

/-- One round. -/
def rnd (p q r : Int) (t : Trio) : Trio :=
  let x := bits BinOp.xor IntKind.u32 ((t.x - t.y - t.z) % 4294967296) (t.z / p)
  let y := bits BinOp.xor IntKind.u32 ((t.y - t.z - x) % 4294967296) (x * q % 4294967296)
  let z := bits BinOp.xor IntKind.u32 ((t.z - x - y) % 4294967296) (y / r)
  ⟨x, y, z⟩

def rnds : Nat → Trio → Trio
  | 0, t => t
  | 1, t => rnd 8192 256 8192 t
  | 2, t => rnd 4096 65536 32 (rnd 8192 256 8192 t)
  | _, t => rnd 8 1024 32768 (rnd 4096 65536 32 (rnd 8192 256 8192 t))

def mixT (t : Trio) : Trio := rnds 3 t

def Trio.cells (t : Trio) : Array Value := #[.int .u32 t.x, .int .u32 t.y, .int .u32 t.z]

def MixRel (t : Trio) (i a b c : Value) : Prop := ∃ (k : Nat) (x y z : Int), k ≤ 3 ∧ i = .int .i64 k ∧ a = .int .u32 x ∧ b = .int .u32 y ∧ c = .int .u32 z ∧ Hid (rnds k t = ⟨x, y, z⟩)

set_option maxHeartbeats 1000000 in
theorem mix_c {w : World} (b : Nat) (t : Trio) (hb : w.heap[b]? = some (.cells t.cells 71)) :
    Calls Try.prog 22 #[.pointer (some ⟨b, 0, none⟩)] w fun e w' => e = .returned (.tuple #[]) ∧ Kept (fun k => k = b) w w' ∧ w'.heap[b]? = some (.cells (mixT t).cells 71) := by
  have z0 : w.cell? ⟨b, 0, none⟩ = some (.int .u32 t.x) := cell_in hb
  have z1 : w.cell? ⟨b, 1, none⟩ = some (.int .u32 t.y) := cell_in hb
  have z2 : w.cell? ⟨b, 2, none⟩ = some (.int .u32 t.z) := cell_in hb
  have HB := Lib.hid hb
  clear hb
  go_enter Try.func22, Try.ntmps22
  go_wp2
  go_quiet (fail)
  clear z0 z1 z2
  go_wp2
  go_loopw [23, 2, 3, 4] (fun i a b c w' => MixRel t i a b c ∧ Kept (fun _ => False) w w') (fun i _ _ _ _ => 3 - (intOf i).toNat)
  case atStart => exact ⟨⟨0, _, _, _, by omega, rfl, rfl, rfl, rfl, Lib.hid rfl⟩, Kept.drewN _ _ _⟩
  case round =>
    obtain ⟨⟨k, x, y, z, hk, rfl, rfl, rfl, rfl, hr⟩, hkr⟩ := hrel
    have hz : wr.heap[b]? = _ := (hkr.block b (lt_in HB.out) (fun h => h)).trans HB.out
    have z0 : wr.cell? ⟨b, 0, none⟩ = some (.int .u32 _) := cell_in hz
    have z1 : wr.cell? ⟨b, 1, none⟩ = some (.int .u32 _) := cell_in hz
    have z2 : wr.cell? ⟨b, 2, none⟩ = some (.int .u32 _) := cell_in hz
    have f0 : wr.frozen? ⟨b, 0, none⟩ = false := frozen_in hz
    have f1 : wr.frozen? ⟨b, 1, none⟩ = false := frozen_in hz
    have f2 : wr.frozen? ⟨b, 2, none⟩ = false := frozen_in hz
    have hlb := lt_in hz
    have HZ := Lib.hid hz
    clear hz
    obtain rfl | rfl | rfl | rfl : k = 0 ∨ k = 1 ∨ k = 2 ∨ k = 3 := by omega

    · have i0 := ix0
      go_wp2
      go_roundw
      case rel =>
        refine ⟨⟨1, _, _, _, by omega, rfl, rfl, rfl, rfl, Lib.hid ?_⟩, hkr.al _⟩
        have h := hr.out
        simp only [rnds] at h ⊢
        rw [h]
        rfl
      case measure => simp [intOf]
    · have i0 := ix1
      go_wp2
      go_roundw
      case rel =>
        refine ⟨⟨2, _, _, _, by omega, rfl, rfl, rfl, rfl, Lib.hid ?_⟩, hkr.al _⟩
        have h := hr.out
        simp only [rnds] at h ⊢
        rw [h]
        rfl
      case measure => simp [intOf]
    · have i0 := ix2
      go_wp2
      go_roundw
      case rel =>
        refine ⟨⟨3, _, _, _, by omega, rfl, rfl, rfl, rfl, Lib.hid ?_⟩, hkr.al _⟩
        have h := hr.out
        simp only [rnds] at h ⊢
        rw [h]
        rfl
      case measure => simp [intOf]
    · go_wp2
      refine bodyPost_end (v := .tuple #[]) (by simp [results, Try.results22]) rfl ⟨rfl, ?_, ?_⟩
      · refine Kept.st ?_ _ (.inl rfl)
        refine Kept.st ?_ _ (.inl rfl)
        refine Kept.st ?_ _ (.inl rfl)
        exact hkr.mono (fun _ _ h => h.elim)
      · have h3 := heap_setCell_same (o := 2) (heap_setCell_same (o := 1) (heap_setCell_same (o := 0) HZ.out (.int .u32 x)) (.int .u32 y)) (.int .u32 z)
        refine h3.trans ?_
        have h := hr.out
        unfold mixT
        rw [h]
        rfl


set_option maxHeartbeats 1000000 in
theorem mixRef_c {w : World} (t : Trio) :
    Calls Try.prog 23 #[.agg t.cells] w fun e w' => e = .returned (.agg (mixT t).cells) ∧ Kept (fun _ => False) w w' := by
  simp only [Trio.cells]
  go_enter Try.func23, Try.ntmps23
  go_wp2
  obtain ⟨K0, x1, x2⟩ := two_new w (Obj.cells #[.int .u32 t.x, .int .u32 t.y, .int .u32 t.z] 73) (Obj.cells #[.int .u32 0, .int .u32 0, .int .u32 0] 73)
  generalize (w.alloc (Obj.cells #[.int .u32 t.x, .int .u32 t.y, .int .u32 t.z] 73)).alloc (Obj.cells #[.int .u32 0, .int .u32 0, .int .u32 0] 73) = w0 at K0 x1 x2 ⊢
  have z0 : w0.cell? ⟨w.heap.size, 0, none⟩ = some (.int .u32 t.x) := cell_in x1
  have z1 : w0.cell? ⟨w.heap.size, 1, none⟩ = some (.int .u32 t.y) := cell_in x1
  have z2 : w0.cell? ⟨w.heap.size, 2, none⟩ = some (.int .u32 t.z) := cell_in x1
  have HB := Lib.hid x2
  clear x1 x2
  go_quiet (fail)
  clear z0 z1 z2
  go_wp2
  go_loopw [18, 3, 4, 5] (fun i a b c w' => MixRel t i a b c ∧ Kept (fun _ => False) w0 w') (fun i _ _ _ _ => 3 - (intOf i).toNat)
  case atStart => exact ⟨⟨0, _, _, _, by omega, rfl, rfl, rfl, rfl, Lib.hid rfl⟩, Kept.drewN _ _ _⟩
  case round =>
    obtain ⟨⟨k, x, y, z, hk, rfl, rfl, rfl, rfl, hr⟩, hkr⟩ := hrel
    have hz : wr.heap[w.heap.size + 1]? = _ := (hkr.block _ (lt_in HB.out) (fun h => h)).trans HB.out
    have z0 : wr.cell? ⟨w.heap.size + 1, 0, none⟩ = some (.int .u32 _) := cell_in hz
    have z1 : wr.cell? ⟨w.heap.size + 1, 1, none⟩ = some (.int .u32 _) := cell_in hz
    have z2 : wr.cell? ⟨w.heap.size + 1, 2, none⟩ = some (.int .u32 _) := cell_in hz
    have f0 : wr.frozen? ⟨w.heap.size + 1, 0, none⟩ = false := frozen_in hz
    have f1 : wr.frozen? ⟨w.heap.size + 1, 1, none⟩ = false := frozen_in hz
    have f2 : wr.frozen? ⟨w.heap.size + 1, 2, none⟩ = false := frozen_in hz
    have hlb := lt_in hz
    have HZ := Lib.hid hz
    clear hz
    obtain rfl | rfl | rfl | rfl : k = 0 ∨ k = 1 ∨ k = 2 ∨ k = 3 := by omega

    · have i0 := ux0
      go_wp2
      go_roundw
      case rel =>
        refine ⟨⟨1, _, _, _, by omega, rfl, rfl, rfl, rfl, Lib.hid ?_⟩, hkr.al _⟩
        have h := hr.out
        simp only [rnds] at h ⊢
        rw [h]
        rfl
      case measure => simp [intOf]
    · have i0 := ux1
      go_wp2
      go_roundw
      case rel =>
        refine ⟨⟨2, _, _, _, by omega, rfl, rfl, rfl, rfl, Lib.hid ?_⟩, hkr.al _⟩
        have h := hr.out
        simp only [rnds] at h ⊢
        rw [h]
        rfl
      case measure => simp [intOf]
    · have i0 := ux2
      go_wp2
      go_roundw
      case rel =>
        refine ⟨⟨3, _, _, _, by omega, rfl, rfl, rfl, rfl, Lib.hid ?_⟩, hkr.al _⟩
        have h := hr.out
        simp only [rnds] at h ⊢
        rw [h]
        rfl
      case measure => simp [intOf]
    · go_wp2
      have h3 := heap_setCell_same (o := 2) (heap_setCell_same (o := 1) (heap_setCell_same (o := 0) HZ.out (.int .u32 x)) (.int .u32 y)) (.int .u32 z)
      have K4 : Kept (fun _ => False) w (((wr.setCell ⟨w.heap.size + 1, 0, none⟩ (.int .u32 x)).setCell ⟨w.heap.size + 1, 1, none⟩ (.int .u32 y)).setCell ⟨w.heap.size + 1, 2, none⟩ (.int .u32 z)) := by
        refine Kept.st ?_ _ (.inr (by simp))
        refine Kept.st ?_ _ (.inr (by simp))
        refine Kept.st ?_ _ (.inr (by simp))
        exact K0.trans hkr
      generalize ((wr.setCell ⟨w.heap.size + 1, 0, none⟩ (.int .u32 x)).setCell ⟨w.heap.size + 1, 1, none⟩ (.int .u32 y)).setCell ⟨w.heap.size + 1, 2, none⟩ (.int .u32 z) = w4 at h3 K4 ⊢
      have e0 : w4.cell? ⟨w.heap.size + 1, 0, none⟩ = some (.int .u32 x) := cell_in h3
      have e1 : w4.cell? ⟨w.heap.size + 1, 1, none⟩ = some (.int .u32 y) := cell_in h3
      have e2 : w4.cell? ⟨w.heap.size + 1, 2, none⟩ = some (.int .u32 z) := cell_in h3
      refine bodyPost_ret (v := .agg #[.int .u32 x, .int .u32 y, .int .u32 z]) (by simp [results, Try.results23, go_sem, e0, e1, e2]) rfl ⟨?_, K4⟩
      have h := hr.out
      unfold mixT
      rw [h]

end Go.Proofs.Ytfikkjdffmchfaa
