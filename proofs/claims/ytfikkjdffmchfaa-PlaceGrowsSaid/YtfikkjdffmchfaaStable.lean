/- Contracts of StableMod, in the program and in the reference. -/
import Derived.Test.YtfikkjdffmchfaaRows
import Derived.Test.YtfikkjdffmchfaaLib
import Derived.Test.YtfikkjdffmchfaaModMath
set_option linter.unusedSimpArgs false
set_option linter.unusedVariables false
namespace Go.Proofs.Ytfikkjdffmchfaa
open Go.RowKit

theorem bits_and_mask {x j : Nat} (hx : x < 4294967296) (hj : j ≤ 31) : bits BinOp.and IntKind.i64 (x : Int) (((2 ^ j : Nat) : Int) - 1) = ((x % 2 ^ j : Nat) : Int) := by
  have h := (bits_nat .i64 63 (by decide) (fun n h0 h1 => IntWalk.i64_in n (by have : (2 : Int) ^ 63 = 9223372036854775808 := by decide
                                                                               omega)) x (2 ^ j - 1) (by omega) (by
    have : 2 ^ j ≤ 2 ^ 31 := Nat.pow_le_pow_right (by omega) hj
    omega)).1
  have hp := Nat.two_pow_pos j
  rw [show (((2 ^ j : Nat) : Int) - 1) = ((2 ^ j - 1 : Nat) : Int) by omega, h, Nat.and_two_pow_sub_one_eq_mod]

/-- What holds of the mask in the loop. -/
def MaskRel (n : Nat) (v : Value) : Prop := ∃ q : Nat, v = .int .i64 ((q : Int) - 1) ∧ 2 ≤ q ∧ q ≤ 2147483648 ∧ Hid (∃ j, q = 2 ^ j ∧ 1 ≤ j ∧ (j = 1 ∨ 2 ^ (j - 1) < n))

set_option maxHeartbeats 800000 in
theorem stable_c {w : World} (x : Nat) (n : Int) (hx : x < 4294967296) (hn : -9223372036854775808 ≤ n) (hn2 : n ≤ 9223372036854775807) :
    Calls Try.prog 13 #[.int .u32 x, .int .i64 n] w fun e w' => e = .returned (.int .i64 (smod x n.toNat)) ∧ w' = w := by
  by_cases h2 : n < 2
  · have hs : smod x n.toNat = 0 := by unfold smod; rw [if_pos (by omega)]
    rw [hs]
    go_enter Try.func13, Try.ntmps13
    go_wp2
    go_ret
    exact ⟨rfl, rfl⟩
  · obtain ⟨m, hm⟩ : ∃ m : Nat, (m : Int) = min n 1073741824 := ⟨(min n 1073741824).toNat, by omega⟩
    have hs : smod x n.toNat = smodJ x m (Nat.log2 (m - 1) + 1) := by
      unfold smod; rw [if_neg (by omega), show min n.toNat 1073741824 = m by omega]
    rw [hs]
    have m1 : 2 ≤ m := by omega
    have m2 : m ≤ 1073741824 := by omega
    have HS := Lib.hid hs
    have hmin : ∀ (w : World), (Builtin.min_ #[3, 3] 3 #[.int .i64 n, .int .i64 1073741824]).run Try.prog w = .ok (.int .i64 m) w := fun w => by rw [hm]; exact Lib.run_min_ints _ _ _ _ _ _ _
    clear hs hm
    go_enter Try.func13, Try.ntmps13
    go_wp2
    go_loop [5] (fun v => MaskRel m v) (fun v => m - (intOf v).toNat)
    case atStart => exact ⟨2, rfl, by omega, by omega, ⟨1, rfl, by omega, .inl rfl⟩⟩
    case round =>
      obtain ⟨q, rfl, q1, q2, hq⟩ := hrel
      by_cases hlt : q < m
      · go_wp2
        go_round
        case rel =>
          obtain ⟨j, rfl, j1, j2⟩ := hq.out
          refine ⟨2 ^ (j + 1), ?_, ?_, ?_, ⟨j + 1, rfl, by omega, .inr (by simpa using hlt)⟩⟩
          · congr 1; rw [Nat.pow_succ]; push_cast; omega
          · rw [Nat.pow_succ]; omega
          · rw [Nat.pow_succ]; omega
        case measure => simp [intOf]; omega
      · go_wp2
        all_goals
          go_ret
          obtain ⟨j, rfl, j1, j2⟩ := hq.out
          have hj31 : j ≤ 31 := by
            rcases Nat.lt_or_ge 31 j with h | h
            · have : 2 ^ 32 ≤ 2 ^ j := Nat.pow_le_pow_right (by omega) h
              omega
            · exact h
          have hmask : Nat.log2 (m - 1) + 1 = j := isMask_unique (isMask_log m1) ⟨j1, by omega, j2⟩
          have hb := bits_and_mask hx hj31
          refine ⟨?_, rfl⟩
          rw [hmask]
          unfold smodJ
          first
            | (have hlt2 : bits BinOp.and IntKind.i64 (x : Int) (((2 ^ j : Nat) : Int) - 1) < (m : Int) := by assumption
               rw [hb] at hlt2
               rw [if_pos (by omega)]
               exact congrArg (fun z => Ending.returned (Value.int .i64 z)) hb)
            | (have hge2 : (m : Int) ≤ bits BinOp.and IntKind.i64 (x : Int) (((2 ^ j : Nat) : Int) - 1) := by assumption
               rw [hb] at hge2
               rw [if_neg (by omega)]
               have hh : ((((2 ^ j : Nat) : Int) - 1) / 2) = (((2 ^ (j - 1) : Nat) : Int) - 1) := by
                 have : 2 ^ j = 2 * 2 ^ (j - 1) := by rw [← Nat.pow_succ']; congr 1; omega
                 omega
               have hb2 := bits_and_mask (x := x) (j := j - 1) hx (by omega)
               rw [← hh] at hb2
               exact congrArg (fun z => Ending.returned (Value.int .i64 z)) hb2)

set_option maxHeartbeats 800000 in
theorem stableRef_c {w : World} (x : Nat) (n : Int) (hx : x < 4294967296) (hn : -9223372036854775808 ≤ n) (hn2 : n ≤ 9223372036854775807) :
    Calls Try.prog 14 #[.int .u32 x, .int .i64 n] w fun e w' => e = .returned (.int .i64 (smod x n.toNat)) ∧ w' = w := by
  by_cases h2 : n < 2
  · have hs : smod x n.toNat = 0 := by unfold smod; rw [if_pos (by omega)]
    rw [hs]
    go_enter Try.func14, Try.ntmps14
    go_wp2
    go_ret
    exact ⟨rfl, rfl⟩
  by_cases h3 : 1073741824 < n
  · obtain ⟨m, hm⟩ : ∃ m : Nat, (m : Int) = 1073741824 := ⟨1073741824, rfl⟩
    have hs : smod x n.toNat = smodJ x m (Nat.log2 (m - 1) + 1) := by
      unfold smod; rw [if_neg (by omega), show min n.toNat 1073741824 = m by omega]
    rw [hs]
    have m1 : 2 ≤ m := by omega
    have m2 : m ≤ 1073741824 := by omega
    have HM := Lib.hid hm
    clear hs hm
    go_enter Try.func14, Try.ntmps14
    go_wp2
    rw [← HM.out]
    go_loop [5] (fun v => MaskRel m v) (fun v => m - (intOf v).toNat)
    case atStart => exact ⟨2, rfl, by omega, by omega, ⟨1, rfl, by omega, .inl rfl⟩⟩
    case round =>
      obtain ⟨q, rfl, q1, q2, hq⟩ := hrel
      by_cases hlt : q < m
      · go_wp2
        go_round
        case rel =>
          obtain ⟨j, rfl, j1, j2⟩ := hq.out
          refine ⟨2 ^ (j + 1), ?_, ?_, ?_, ⟨j + 1, rfl, by omega, .inr (by simpa using hlt)⟩⟩
          · congr 1; rw [Nat.pow_succ]; push_cast; omega
          · rw [Nat.pow_succ]; omega
          · rw [Nat.pow_succ]; omega
        case measure => simp [intOf]; omega
      · go_wp2
        all_goals
          go_ret
          obtain ⟨j, rfl, j1, j2⟩ := hq.out
          have hj31 : j ≤ 31 := by
            rcases Nat.lt_or_ge 31 j with h | h
            · have : 2 ^ 32 ≤ 2 ^ j := Nat.pow_le_pow_right (by omega) h
              omega
            · exact h
          have hmask : Nat.log2 (m - 1) + 1 = j := isMask_unique (isMask_log m1) ⟨j1, by omega, j2⟩
          have hb := bits_and_mask hx hj31
          refine ⟨?_, rfl⟩
          rw [hmask]
          unfold smodJ
          first
            | (have hlt2 : bits BinOp.and IntKind.i64 (x : Int) (((2 ^ j : Nat) : Int) - 1) < (m : Int) := by assumption
               rw [hb] at hlt2
               rw [if_pos (by omega)]
               exact congrArg (fun z => Ending.returned (Value.int .i64 z)) hb)
            | (have hge2 : (m : Int) ≤ bits BinOp.and IntKind.i64 (x : Int) (((2 ^ j : Nat) : Int) - 1) := by assumption
               rw [hb] at hge2
               rw [if_neg (by omega)]
               have hh : ((((2 ^ j : Nat) : Int) - 1) / 2) = (((2 ^ (j - 1) : Nat) : Int) - 1) := by
                 have : 2 ^ j = 2 * 2 ^ (j - 1) := by rw [← Nat.pow_succ']; congr 1; omega
                 omega
               have hb2 := bits_and_mask (x := x) (j := j - 1) hx (by omega)
               rw [← hh] at hb2
               exact congrArg (fun z => Ending.returned (Value.int .i64 z)) hb2)

  · obtain ⟨m, rfl⟩ : ∃ m : Nat, n = (m : Int) := ⟨n.toNat, by omega⟩
    have hs : smod x ((m : Int)).toNat = smodJ x m (Nat.log2 (m - 1) + 1) := by
      rw [Int.toNat_natCast]; unfold smod; rw [if_neg (by omega), show min m 1073741824 = m by omega]
    rw [hs]
    have m1 : 2 ≤ m := by omega
    have m2 : m ≤ 1073741824 := by omega
    clear hs
    go_enter Try.func14, Try.ntmps14
    go_wp2
    go_loop [5] (fun v => MaskRel m v) (fun v => m - (intOf v).toNat)
    case atStart => exact ⟨2, rfl, by omega, by omega, ⟨1, rfl, by omega, .inl rfl⟩⟩
    case round =>
      obtain ⟨q, rfl, q1, q2, hq⟩ := hrel
      by_cases hlt : q < m
      · go_wp2
        go_round
        case rel =>
          obtain ⟨j, rfl, j1, j2⟩ := hq.out
          refine ⟨2 ^ (j + 1), ?_, ?_, ?_, ⟨j + 1, rfl, by omega, .inr (by simpa using hlt)⟩⟩
          · congr 1; rw [Nat.pow_succ]; push_cast; omega
          · rw [Nat.pow_succ]; omega
          · rw [Nat.pow_succ]; omega
        case measure => simp [intOf]; omega
      · go_wp2
        all_goals
          go_ret
          obtain ⟨j, rfl, j1, j2⟩ := hq.out
          have hj31 : j ≤ 31 := by
            rcases Nat.lt_or_ge 31 j with h | h
            · have : 2 ^ 32 ≤ 2 ^ j := Nat.pow_le_pow_right (by omega) h
              omega
            · exact h
          have hmask : Nat.log2 (m - 1) + 1 = j := isMask_unique (isMask_log m1) ⟨j1, by omega, j2⟩
          have hb := bits_and_mask hx hj31
          refine ⟨?_, rfl⟩
          rw [hmask]
          unfold smodJ
          first
            | (have hlt2 : bits BinOp.and IntKind.i64 (x : Int) (((2 ^ j : Nat) : Int) - 1) < (m : Int) := by assumption
               rw [hb] at hlt2
               rw [if_pos (by omega)]
               exact congrArg (fun z => Ending.returned (Value.int .i64 z)) hb)
            | (have hge2 : (m : Int) ≤ bits BinOp.and IntKind.i64 (x : Int) (((2 ^ j : Nat) : Int) - 1) := by assumption
               rw [hb] at hge2
               rw [if_neg (by omega)]
               have hh : ((((2 ^ j : Nat) : Int) - 1) / 2) = (((2 ^ (j - 1) : Nat) : Int) - 1) := by
                 have : 2 ^ j = 2 * 2 ^ (j - 1) := by rw [← Nat.pow_succ']; congr 1; omega
                 omega
               have hb2 := bits_and_mask (x := x) (j := j - 1) hx (by omega)
               rw [← hh] at hb2
               exact congrArg (fun z => Ending.returned (Value.int .i64 z)) hb2)


end Go.Proofs.Ytfikkjdffmchfaa
