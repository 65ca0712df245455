/- The contracts of both Crc. -/
import Derived.Test.YtfchbkmegicfoaaGreatCrc
set_option linter.unusedSimpArgs false
set_option linter.unusedVariables false
namespace Go.Proofs.YtfchbkmegicfoaaGreat
open Go.RowKit

/-- A byte of a slice that is read. -/
theorem Reads.byte {w : World} {a : Option Addr} {c : Nat} {bs : List UInt8} {g : Option Nat} (h : Reads w 1 (.slice a bs.length c) bs.length (bs.map bv) g) {k : Nat} (hk : k < bs.length) :
    ∃ b off, g = some b ∧ a = some ⟨b, off, none⟩ ∧ w.cell? ⟨b, off + k, none⟩ = some (.int .u8 (bs[k].toNat : Int)) := by
  obtain ⟨h0, ⟨a', c', he, hx⟩ | ⟨b, off, c', rfl, he, h1, h2, h3⟩⟩ := h
  · omega
  · simp only [Value.slice.injEq, true_and] at he
    obtain ⟨rfl, rfl⟩ := he
    refine ⟨b, off, rfl, rfl, ?_⟩
    rw [h3 k (by simpa using hk), List.getElem?_map, List.getElem?_eq_getElem hk]
    rfl

theorem crcFold_snoc (c : Nat) (bs : List UInt8) (k : Nat) (hk : k < bs.length) : crcFold c (bs.take (k + 1)) = crcByte (crcFold c (bs.take k)) bs[k].toNat := by
  unfold crcFold
  rw [List.take_succ_eq_append_getElem hk, List.foldl_append]
  rfl

set_option maxRecDepth 100000 in
set_option maxHeartbeats 1600000 in
theorem crc_c2 {w : World} {e : Nat} {cs : Array Value} (h : Eng w e cs) (h0 : cs[0]? = some (.int .u32 0)) (h1 : cs[1]? = some (.int .i32 0)) (h2 : cs[259]? = some (.int .i64 0)) {v : Value} {bs : List UInt8} {g : Option Nat} (hr : Reads w 1 v bs.length (bs.map bv) g) (hg : ∀ k, g = some k → k ≠ e) (hm : bs.length ≤ 140737488351232) :
    Calls Tryz.prog 90 #[.pointer (some ⟨e, 0, none⟩), v] w fun x w' => x = .returned (.int .u32 (crcN bs)) ∧ Kept (· = e) w w' ∧ ∃ cs', Eng w' e cs' := by
  obtain ⟨a, c, rfl, hc⟩ := hr.shape
  have hmf : ∀ (fn : Fn) (first cap : Array Value) (w : World), (Instr.makeFunc fn first cap).run Tryz.prog w = .ok (.func fn first cap) w := fun _ _ _ _ => rfl
  have c9 : w.cell? ⟨e, 259, none⟩ = some (.int .i64 0) := (cell_in h.heap).trans h2
  have f9 : w.frozen? ⟨e, 259, none⟩ = false := frozen_in h.heap
  have hh := heap_setCell_same (o := 259) h.heap (.int .i64 1)
  have E1 : Eng (w.setCell ⟨e, 259, none⟩ (.int .i64 1)) e (cs.setIfInBounds 259 (.int .i64 1)) := ⟨hh, by simp [h.size]⟩
  have K1 : Kept (· = e) w (w.setCell ⟨e, 259, none⟩ (.int .i64 1)) := Kept.setCell _ _ _ rfl
  clear hh
  go_enter Tryz.func90, Tryz.ntmps90
  go_wp2_with (first
    | (go_at_call 113; refine (add64_c ⟨e, 259, none⟩ 0 1 1 _ c9 f9 (by decide)).mono ?_; rintro x w' ⟨rfl, rfl⟩)
    | (go_at_call 114; refine (do_c E1 (by rw [Array.getElem?_setIfInBounds_ne (by omega), h0]) (by rw [Array.getElem?_setIfInBounds_ne (by omega), h1])).mono ?_; rintro x w2 ⟨rfl, cs2, E2, t2, -, k2⟩))
  have K2 := K1.trans k2
  have r2 := hr.kept K2 hg
  clear E1 K1 k2 c9 f9
  go_loopw [22, 5] (fun i x w' => (∃ k C : Nat, k ≤ bs.length ∧ i = .int .i64 k ∧ x = .int .u32 C ∧ C < 4294967296 ∧ Hid (C = crcFold 4294967295 (bs.take k))) ∧ w' = w2) (fun i _ _ => bs.length - (intOf i).toNat)
  case atStart => exact ⟨⟨0, 4294967295, by omega, rfl, rfl, by omega, Lib.hid rfl⟩, rfl⟩
  case round =>
    obtain ⟨⟨k, C, hk, rfl, rfl, hC, hCr⟩, rfl⟩ := hrel
    by_cases hk2 : k < bs.length
    · have hki : (k : Int) < (bs.length : Int) := by omega
      obtain ⟨b, off, rfl, rfl, hcell⟩ := r2.byte hk2
      obtain ⟨B, hB⟩ : ∃ B : Nat, B = bs[k].toNat := ⟨_, rfl⟩
      have hBl : B < 256 := by rw [hB]; exact UInt8.toNat_lt _
      rw [← hB] at hcell
      obtain ⟨X, hX⟩ : ∃ X : Nat, X = (C % 256) ^^^ B := ⟨_, rfl⟩
      have hXl : X < 256 := by rw [hX]; exact Nat.xor_lt_two_pow (n := 8) (by omega) hBl
      obtain ⟨T, hT⟩ : ∃ T : Nat, T = rnds 8 X := ⟨_, rfl⟩
      have hTl : T < 4294967296 := by rw [hT]; exact rnds_lt (by omega)
      have z : wr.cell? ⟨e, 3 + X, none⟩ = some (.int .u32 T) := by rw [cell_in E2.heap, t2 X hXl, hT]
      have e1 := xor_u8 (C % 256) B (by omega) hBl
      have e2 := xor_u32 (C / 256) T (by omega) hTl
      simp only [Int.natCast_ediv, Int.natCast_emod, Int.cast_ofNat_Int] at e1 e2
      rw [← hX] at e1
      obtain ⟨D, hD⟩ : ∃ D : Nat, D = (C / 256) ^^^ T := ⟨_, rfl⟩
      have hDl : D < 4294967296 := by rw [hD]; exact Nat.xor_lt_two_pow (n := 32) (by omega) hTl
      rw [← hD] at e2
      have HD : Hid (D = crcFold 4294967295 (bs.take (k + 1))) := Lib.hid (by rw [crcFold_snoc _ _ _ hk2, ← hCr.out, ← hB, byte_table, hD, hT, hX])
      clear hD hT hX hB
      go_wp2
      refine ⟨⟨⟨k + 1, D, by omega, by simp, by simp, hDl, HD⟩, trivial⟩, by simp [intOf]; omega⟩
    · obtain rfl : k = bs.length := by omega
      have hsg : ¬ IntKind.u32.signed = true := by decide
      have e1 : bits BinOp.xor IntKind.u32 IntKind.u32.max (C : Int) = ((crcN bs : Nat) : Int) := by
        have h3 := xor_u32 4294967295 C (by decide) hC
        rw [Nat.xor_comm] at h3
        have h4 : crcN bs = C ^^^ 4294967295 := by rw [hCr.out, List.take_length]; rfl
        rw [h4]
        exact h3
      go_wp2
      go_ret
      exact ⟨rfl, K2, cs2, E2⟩

theorem crc_c {w : World} {e : Nat} {cs : Array Value} (h : Eng w e cs) (h0 : cs[0]? = some (.int .u32 0)) (h1 : cs[1]? = some (.int .i32 0)) (h2 : cs[259]? = some (.int .i64 0)) {v : Value} {bs : List UInt8} {g : Option Nat} (hr : Reads w 1 v bs.length (bs.map bv) g) (hg : ∀ k, g = some k → k ≠ e) (hm : bs.length ≤ 140737488351232) :
    Calls Tryz.prog 90 #[.pointer (some ⟨e, 0, none⟩), v] w fun x w' => x = .returned (.int .u32 (crcN bs)) ∧ Kept (· = e) w w' :=
  (crc_c2 h h0 h1 h2 hr hg hm).mono fun x w' ⟨a, b, _⟩ => ⟨a, b⟩

set_option maxRecDepth 100000 in
set_option maxHeartbeats 1600000 in
theorem crcRef_c {w : World} {v : Value} {bs : List UInt8} {g : Option Nat} (hr : Reads w 1 v bs.length (bs.map bv) g) (hm : bs.length ≤ 140737488351232) :
    Calls Tryz.prog 139 #[v] w fun x w' => x = .returned (.int .u32 (crcN bs)) ∧ w' = w := by
  obtain ⟨a, c, rfl, hc⟩ := hr.shape
  go_enter Tryz.func139, Tryz.ntmps139
  go_wp2
  go_loopw [10, 3] (fun i x w' => (∃ k C : Nat, k ≤ bs.length ∧ i = .int .i64 k ∧ x = .int .u32 C ∧ C < 4294967296 ∧ Hid (C = crcFold 4294967295 (bs.take k))) ∧ w' = w) (fun i _ _ => bs.length - (intOf i).toNat)
  case atStart => exact ⟨⟨0, 4294967295, by omega, rfl, rfl, by omega, Lib.hid rfl⟩, rfl⟩
  case round =>
    obtain ⟨⟨k, C, hk, rfl, rfl, hC, hCr⟩, rfl⟩ := hrel
    by_cases hk2 : k < bs.length
    · have hki : (k : Int) < (bs.length : Int) := by omega
      obtain ⟨b, off, rfl, rfl, hcell⟩ := hr.byte hk2
      obtain ⟨B, hB⟩ : ∃ B : Nat, B = bs[k].toNat := ⟨_, rfl⟩
      have hBl : B < 256 := by rw [hB]; exact UInt8.toNat_lt _
      rw [← hB] at hcell
      have HB := Lib.hid hB
      clear hB
      rename World => wo
      go_wp2
      go_loopw [6, 3] (fun n x w' => (∃ m D : Nat, m ≤ 8 ∧ n = .int .i64 m ∧ x = .int .u32 D ∧ D < 4294967296 ∧ Hid (D = rnds m (C ^^^ B) ^^^ (B / 2 ^ m))) ∧ w' = wo) (fun n _ _ => 8 - (intOf n).toNat)
      case atStart => exact ⟨⟨0, C, by omega, rfl, rfl, hC, Lib.hid (ref_start C B).symm⟩, rfl⟩
      case round =>
        obtain ⟨⟨m, D, hm, rfl, rfl, hD, hDr⟩, rfl⟩ := hrel
        by_cases hm2 : m < 8
        · have hmi : (m : Int) < 8 := by omega
          have hm0 : ¬ (m : Int) < 0 := by omega
          obtain ⟨S, hS⟩ : ∃ S : Nat, S = B / 2 ^ m := ⟨_, rfl⟩
          have hSl : S < 256 := by rw [hS]; exact Nat.lt_of_le_of_lt (Nat.div_le_self _ _) hBl
          have e0 : (B : Int) / 2 ^ m % 4294967296 = (S : Int) := by
            have h5 : (B : Int) / 2 ^ m = (S : Int) := by rw [hS, Int.natCast_ediv, Int.natCast_pow]; rfl
            rw [h5]
            omega
          obtain ⟨X, hX⟩ : ∃ X : Nat, X = D ^^^ S := ⟨_, rfl⟩
          have hXl : X < 4294967296 := by rw [hX]; exact Nat.xor_lt_two_pow (n := 32) hD (by omega)
          have e3 := xor_u32 D S hD (by omega)
          rw [← hX] at e3
          have e4 := and_one_u32 X hXl
          have key : rnds (m + 1) (C ^^^ B) ^^^ (B / 2 ^ (m + 1)) = (D / 2) ^^^ (if X % 2 = 1 then poly else 0) := by
            rw [← refStep_eq, ← hDr.out, refStep, hX, hS]
          have HK := Lib.hid key
          clear key hX hS
          rcases low_cases X with hl | hl
          · rw [hl] at e4
            go_wp2
            refine ⟨⟨⟨m + 1, D / 2, by omega, by simp, by simp, by omega, Lib.hid ?_⟩, trivial⟩, by simp [intOf]; omega⟩
            rw [HK.out, hl]
            simp
          · rw [hl] at e4
            have e2 := xor_u32 (D / 2) poly (by omega) (by decide)
            simp only [poly, Int.natCast_ediv, Int.cast_ofNat_Int] at e2
            go_wp2
            refine ⟨⟨⟨m + 1, (D / 2) ^^^ poly, by omega, by simp, ?_, Nat.xor_lt_two_pow (n := 32) (by omega) (by decide), Lib.hid ?_⟩, trivial⟩, by simp [intOf]; omega⟩
            · simp [poly]
            · rw [HK.out, hl]
              simp
        · obtain rfl : m = 8 := by omega
          have HE : Hid (D = crcFold 4294967295 (bs.take (k + 1))) := Lib.hid (by rw [crcFold_snoc _ _ _ hk2, ← hCr.out, ← HB.out, hDr.out, ref_end _ _ hBl])
          go_wp2
          refine ⟨⟨⟨k + 1, D, by omega, by simp, by simp, hD, HE⟩, trivial⟩, by simp [intOf]; omega⟩
    · obtain rfl : k = bs.length := by omega
      have e1 : bits BinOp.xor IntKind.u32 (C : Int) 4294967295 = ((crcN bs : Nat) : Int) := by
        have h3 := xor_u32 C 4294967295 hC (by decide)
        have h4 : crcN bs = C ^^^ 4294967295 := by rw [hCr.out, List.take_length]; rfl
        rw [h4]
        exact h3
      go_wp2
      go_ret
      exact ⟨rfl, rfl⟩

end Go.Proofs.YtfchbkmegicfoaaGreat
