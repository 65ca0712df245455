/- The contract of the engine's Crc. -/
import Derived.Test.YtfchbkmegicfoaaGreatOnce
import Derived.Test.YtfchbkmegicfoaaGreatCrcMath
import Derived.Test.YtfchbkmegicfoaaGreatRegion
set_option linter.unusedSimpArgs false
set_option linter.unusedVariables false
namespace Go.Proofs.YtfchbkmegicfoaaGreat
open Go.RowKit

theorem and_one_u32 (c : Nat) (h : c < 4294967296) : bits BinOp.and IntKind.u32 (c : Int) 1 = ((c % 2 : Nat) : Int) := by
  have h1 := (bits_nat .u32 32 (by decide) (fun n h0 h1 => by rw [IntKind.wrap_u32]; omega) c 1 (by omega) (by omega)).1
  have h2 : c &&& 1 = c % 2 := Nat.and_one_is_mod c
  rw [h2] at h1
  exact h1

theorem bits_xor_nat (k : IntKind) (j : Nat) (hj : j ≤ k.bits) (hk : ∀ n : Int, 0 ≤ n → n < 2 ^ j → k.wrap n = n) (a b : Nat) (ha : a < 2 ^ j) (hb : b < 2 ^ j) :
    bits .xor k a b = ((a ^^^ b : Nat) : Int) := by
  have hp : 2 ^ j ≤ 2 ^ k.bits := Nat.pow_le_pow_right (by decide) hj
  have ha' : a % 2 ^ k.bits = a := Nat.mod_eq_of_lt (Nat.lt_of_lt_of_le ha hp)
  have hb' : b % 2 ^ k.bits = b := Nat.mod_eq_of_lt (Nat.lt_of_lt_of_le hb hp)
  have cast : ∀ n : Nat, n < 2 ^ j → ((n : Nat) : Int) < 2 ^ j := fun n h => by exact_mod_cast h
  simp only [bits, BitVec.ofInt_natCast, BitVec.toNat_xor, BitVec.toNat_ofNat, ha', hb']
  exact hk _ (Int.natCast_nonneg _) (cast _ (Nat.xor_lt_two_pow ha hb))

theorem xor_u32 (a b : Nat) (ha : a < 4294967296) (hb : b < 4294967296) : bits BinOp.xor IntKind.u32 (a : Int) (b : Int) = ((a ^^^ b : Nat) : Int) :=
  bits_xor_nat .u32 32 (by decide) (fun n h0 h1 => by rw [IntKind.wrap_u32]; omega) a b (by omega) (by omega)
theorem xor_u8 (a b : Nat) (ha : a < 256) (hb : b < 256) : bits BinOp.xor IntKind.u8 (a : Int) (b : Int) = ((a ^^^ b : Nat) : Int) :=
  bits_xor_nat .u8 8 (by decide) wraps_u8 a b (by omega) (by omega)

/-- The engine's block. -/
structure Eng (w : World) (e : Nat) (cs : Array Value) : Prop where
  heap : w.heap[e]? = some (.cells cs 252)
  size : cs.size = 260

def MakeRel (cs : Array Value) (w : World) (e : Nat) (i : Value) (w' : World) : Prop := ∃ (k : Nat) (cs' : Array Value), k ≤ 256 ∧ i = .int .i64 k ∧ w'.heap[e]? = some (.cells cs' 252) ∧ Hid (cs'.size = 260 ∧ (∀ j, j < k → cs'[3 + j]? = some (.int .u32 (rnds 8 j))) ∧ (∀ j, (j < 3 ∨ 259 ≤ j) → cs'[j]? = cs[j]?)) ∧ Kept (· = e) w w'

set_option maxRecDepth 100000 in
set_option maxHeartbeats 1600000 in
theorem make_c {w : World} {e : Nat} {cs : Array Value} (h : Eng w e cs) :
    Calls Tryz.prog 115 #[.pointer (some ⟨e, 0, none⟩)] w fun x w' => x = .returned (.tuple #[]) ∧ ∃ cs', Eng w' e cs' ∧ (∀ j, j < 256 → cs'[3 + j]? = some (.int .u32 (rnds 8 j))) ∧ (∀ j, (j < 3 ∨ 259 ≤ j) → cs'[j]? = cs[j]?) ∧ Kept (· = e) w w' := by
  go_enter Tryz.func115, Tryz.ntmps115
  go_wp2
  go_loopw [4] (fun i w' => MakeRel cs w e i w') (fun i _ => 256 - (intOf i).toNat)
  case atStart => exact ⟨0, cs, by omega, rfl, h.heap, Lib.hid ⟨h.size, fun j hj => by omega, fun j _ => rfl⟩, Kept.refl _ _⟩
  case round =>
    obtain ⟨k, cs', hk, rfl, hh, hcs, hkk⟩ := hrel
    by_cases hk2 : k < 256
    · have HH := Lib.hid hh
      clear hh
      have hki : (k : Int) < 256 := by omega
      rename World => wo
      go_wp2
      go_loopw [9, 3] (fun n c w' => (∃ m C : Nat, m ≤ 8 ∧ n = .int .i64 m ∧ c = .int .u32 C ∧ C < 4294967296 ∧ Hid (C = rnds m k)) ∧ w' = wo) (fun n _ _ => 8 - (intOf n).toNat)
      case atStart => exact ⟨⟨0, k, by omega, rfl, rfl, by omega, Lib.hid rfl⟩, rfl⟩
      case round =>
        obtain ⟨⟨m, C, hm, rfl, rfl, hC, hCr⟩, rfl⟩ := hrel
        by_cases hm2 : m < 8
        · have hmi : (m : Int) < 8 := by omega
          have e1 := and_one_u32 C hC
          rcases low_cases C with hl | hl
          · rw [hl] at e1
            go_wp2
            refine ⟨⟨⟨m + 1, C / 2, by omega, by simp, by simp, by omega, Lib.hid ?_⟩, trivial⟩, by simp [intOf]; omega⟩
            simp only [rnds, ← hCr.out, rnd, hl]
            simp
          · rw [hl] at e1
            have e2 := xor_u32 (C / 2) poly (by omega) (by decide)
            simp only [poly, Int.natCast_ediv, Int.cast_ofNat_Int] at e2
            go_wp2
            refine ⟨⟨⟨m + 1, (C / 2) ^^^ poly, by omega, by simp, ?_, Nat.xor_lt_two_pow (n := 32) (by omega) (by decide), Lib.hid ?_⟩, trivial⟩, by simp [intOf]; omega⟩
            · simp [poly]
            · simp only [rnds, ← hCr.out, rnd, hl]
              simp
        · obtain rfl : m = 8 := by omega
          obtain ⟨x, hx⟩ : ∃ x, cs'[3 + k]? = some x := ⟨_, Array.getElem?_eq_getElem (by have := hcs.out.1; omega)⟩
          have z0 : wr.cell? ⟨e, 3 + k, none⟩ = some x := (cell_in HH.out).trans hx
          have f0 : wr.frozen? ⟨e, 3 + k, none⟩ = false := frozen_in HH.out
          have hl := lt_in HH.out
          have HX := Lib.hid hx
          clear hx
          go_wp2
          refine ⟨⟨k + 1, cs'.setIfInBounds (3 + k) (.int .u32 C), by omega, by simp, heap_setCell_same HH.out _, Lib.hid ⟨by simp [hcs.out.1], fun j hj => ?_, fun j hj => ?_⟩, hkk.st _ (.inl rfl)⟩, by simp [intOf]; omega⟩
          · by_cases hjk : j = k
            · subst hjk
              rw [Array.getElem?_setIfInBounds_self_of_lt (by have := hcs.out.1; omega), ← hCr.out]
            · rw [Array.getElem?_setIfInBounds_ne (by omega)]
              exact hcs.out.2.1 j (by omega)
          · rw [Array.getElem?_setIfInBounds_ne (by omega)]
            exact hcs.out.2.2 j hj
    · obtain rfl : k = 256 := by omega
      have HH := Lib.hid hh
      clear hh
      go_wp2
      exact bodyPost_end (v := .tuple #[]) (by simp [results, Tryz.results115]) rfl ⟨rfl, cs', ⟨HH.out, hcs.out.1⟩, hcs.out.2.1, hcs.out.2.2, hkk⟩

set_option maxRecDepth 100000 in
set_option maxHeartbeats 1600000 in
/-- '(*sync.Once).doSlow' with the engine's make, not yet done. -/
theorem slow_c {w : World} {e : Nat} {cs : Array Value} (h : Eng w e cs) (h0 : cs[0]? = some (.int .u32 0)) (h1 : cs[1]? = some (.int .i32 0)) :
    Calls Tryz.prog 134 #[.pointer (some ⟨e, 0, none⟩), .func (.func 115) #[.pointer (some ⟨e, 0, none⟩)] #[]] w fun x w' => x = .returned (.tuple #[]) ∧ ∃ cs', Eng w' e cs' ∧ (∀ j, j < 256 → cs'[3 + j]? = some (.int .u32 (rnds 8 j))) ∧ cs'[259]? = cs[259]? ∧ Kept (· = e) w w' := by
  have c1 : w.cell? ⟨e, 1, none⟩ = some (.int .i32 0) := (cell_in h.heap).trans h1
  have f1 : w.frozen? ⟨e, 1, none⟩ = false := frozen_in h.heap
  have hh1 := heap_setCell_same (o := 1) h.heap (.int .i32 1)
  have E1 : Eng (w.setCell ⟨e, 1, none⟩ (.int .i32 1)) e (cs.setIfInBounds 1 (.int .i32 1)) := ⟨hh1, by simp [h.size]⟩
  have d0 : (w.setCell ⟨e, 1, none⟩ (.int .i32 1)).cell? ⟨e, 0, none⟩ = some (.int .u32 0) := by
    rw [cell_in hh1, Array.getElem?_setIfInBounds_ne (by omega), h0]
  have hl := run_call_load (P := Tryz.prog) Tryz.func144 (by kernel_rfl) (by kernel_rfl) (by kernel_rfl) .u32 (by kernel_rfl) d0
  have hnot : ∀ (x : Bool) (w : World), (Op.unary .not (.bool x)).run Tryz.prog w = .ok (.bool (!x)) w := fun _ _ => rfl
  have K1 : Kept (· = e) w (w.setCell ⟨e, 1, none⟩ (.int .i32 1)) := Kept.setCell _ _ _ rfl
  clear hh1
  go_enter_defers Tryz.func134, Tryz.ntmps134
  go_wp2_with (first
    | (go_at_call 145; refine (lock_free ⟨e, 1, none⟩ _ c1 f1).mono ?_; rintro x w' ⟨rfl, rfl⟩)
    | (go_at_call 133; go_in)
    | (go_at_call 115; refine (make_c E1).mono ?_; rintro x w2 ⟨rfl, cs2, E2, t2, o2, k2⟩))
  have a0 : w2.cell? ⟨e, 0, none⟩ = some (.int .u32 0) := by
    rw [cell_in E2.heap, o2 0 (by omega), Array.getElem?_setIfInBounds_ne (by omega), h0]
  refine leaves_cons (f := 147) (args := #[.pointer (some ⟨e, 0, none⟩), .bool true]) (by simp) (by simp [go_sem]) ?_
  refine (store_deferred ⟨e, 0, none⟩ (.int .u32 0) .returning _ a0 (frozen_in E2.heap)).mono ?_
  rintro x u' w3 ⟨rfl, rfl, rfl⟩
  have hh3 : (w2.drew.setCell ⟨e, 0, none⟩ (.int .u32 1)).heap[e]? = _ := heap_setCell_same (w := w2.drew) (o := 0) E2.heap (.int .u32 1)
  have a1 : (w2.drew.setCell ⟨e, 0, none⟩ (.int .u32 1)).cell? ⟨e, 1, none⟩ = some (.int .i32 1) := by
    rw [cell_in hh3, Array.getElem?_setIfInBounds_ne (by omega), o2 1 (by omega), Array.getElem?_setIfInBounds_self_of_lt (by rw [h.size]; omega)]
  refine leaves_cons (f := 146) (args := #[.pointer (some ⟨e, 1, none⟩)]) (by simp [settle]) (by simp [go_sem]) ?_
  refine (unlock_deferred ⟨e, 1, none⟩ _ _ a1 (frozen_in hh3)).mono ?_
  rintro x u' w4 ⟨rfl, rfl, rfl⟩
  have hh4 := heap_setCell_same (o := 1) hh3 (.int .i32 0)
  have KK : Kept (· = e) w ((w2.drew.setCell ⟨e, 0, none⟩ (.int .u32 1)).setCell ⟨e, 1, none⟩ (.int .i32 0)) := (((K1.trans k2).dr).st _ (.inl rfl)).st _ (.inl rfl)
  have key : ∃ cs', Eng ((w2.drew.setCell ⟨e, 0, none⟩ (.int .u32 1)).setCell ⟨e, 1, none⟩ (.int .i32 0)) e cs' ∧ (∀ j, j < 256 → cs'[3 + j]? = some (.int .u32 (rnds 8 j))) ∧ cs'[259]? = cs[259]? ∧ Kept (· = e) w ((w2.drew.setCell ⟨e, 0, none⟩ (.int .u32 1)).setCell ⟨e, 1, none⟩ (.int .i32 0)) := by
    refine ⟨_, ⟨hh4, by simp [E2.size]⟩, fun j hj => ?_, ?_, KK⟩
    · rw [Array.getElem?_setIfInBounds_ne (by omega), Array.getElem?_setIfInBounds_ne (by omega)]
      exact t2 j hj
    · rw [Array.getElem?_setIfInBounds_ne (by omega), Array.getElem?_setIfInBounds_ne (by omega), o2 259 (by omega), Array.getElem?_setIfInBounds_ne (by omega)]
  generalize (w2.drew.setCell ⟨e, 0, none⟩ (.int .u32 1)).setCell ⟨e, 1, none⟩ (.int .i32 0) = w5 at key ⊢
  simp only [Leaves, settle, results, Tryz.results134]
  simp
  exact key

set_option maxRecDepth 100000 in
set_option maxHeartbeats 1600000 in
/-- '(*sync.Once).Do', not yet done. -/
theorem do_c {w : World} {e : Nat} {cs : Array Value} (h : Eng w e cs) (h0 : cs[0]? = some (.int .u32 0)) (h1 : cs[1]? = some (.int .i32 0)) :
    Calls Tryz.prog 114 #[.pointer (some ⟨e, 0, none⟩), .func (.func 115) #[.pointer (some ⟨e, 0, none⟩)] #[]] w fun x w' => x = .returned (.tuple #[]) ∧ ∃ cs', Eng w' e cs' ∧ (∀ j, j < 256 → cs'[3 + j]? = some (.int .u32 (rnds 8 j))) ∧ cs'[259]? = cs[259]? ∧ Kept (· = e) w w' := by
  have d0 : w.cell? ⟨e, 0, none⟩ = some (.int .u32 0) := (cell_in h.heap).trans h0
  have hl := run_call_load (P := Tryz.prog) Tryz.func144 (by kernel_rfl) (by kernel_rfl) (by kernel_rfl) .u32 (by kernel_rfl) d0
  have hnot : ∀ (x : Bool) (w : World), (Op.unary .not (.bool x)).run Tryz.prog w = .ok (.bool (!x)) w := fun _ _ => rfl
  go_enter Tryz.func114, Tryz.ntmps114
  go_wp2_with (first | (go_at_call 134; refine (slow_c h h0 h1).mono ?_; rintro x w2 ⟨rfl, cs2, E2, t2, o2, k2⟩) | (go_at_call 133; go_in))
  exact bodyPost_end (v := .tuple #[]) (by simp [results, Tryz.results114]) rfl ⟨rfl, cs2, E2, t2, o2, k2⟩

end Go.Proofs.YtfchbkmegicfoaaGreat
