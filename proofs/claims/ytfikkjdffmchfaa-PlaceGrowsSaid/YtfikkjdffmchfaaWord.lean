/- Contracts of word, four and cut. -/
import Derived.Test.YtfikkjdffmchfaaRows
import Derived.Test.YtfikkjdffmchfaaLib
import Derived.Test.YtfikkjdffmchfaaGood
import Derived.Lib.MinMax
set_option linter.unusedSimpArgs false
set_option linter.unusedVariables false
namespace Go.Proofs.Ytfikkjdffmchfaa
open Go.RowKit

/-- The number that bytes spell, the least first. -/
def lew : List UInt8 → Nat
  | [] => 0
  | b :: r => b.toNat + 256 * lew r

theorem lew_append (l r : List UInt8) : lew (l ++ r) = lew l + 256 ^ l.length * lew r := by
  induction l with
  | nil => simp [lew]
  | cons b l ih => rw [List.cons_append, lew, ih, lew, List.length_cons, Nat.pow_succ, Nat.mul_add]; rw [Nat.mul_comm (256 ^ l.length) 256, Nat.mul_assoc]; omega

theorem lew_lt (l : List UInt8) : lew l < 256 ^ l.length := by
  induction l with
  | nil => simp [lew]
  | cons b l ih => rw [lew, List.length_cons, Nat.pow_succ]; have := b.toNat_lt; omega

theorem lew_step (s : ByteArray) (k : Nat) (h : k < s.size) : lew (s.data.toList.take (k + 1)) = lew (s.data.toList.take k) + 256 ^ k * s[k].toNat := by
  rw [take_snoc' s k h, lew_append]
  simp [lew]
  rw [Nat.min_eq_left (by omega)]

theorem or_join (k x b : Nat) (hk : k ≤ 3) (hx : x < 256 ^ k) (hb : b < 256) : bits BinOp.or IntKind.u32 (x : Int) (((256 ^ k * b : Nat)) : Int) = ((x + 256 ^ k * b : Nat) : Int) := by
  have h32 : ∀ n : Int, 0 ≤ n → n < 2 ^ 32 → IntKind.u32.wrap n = n := fun n h0 h1 => by rw [IntKind.wrap_u32]; omega
  obtain rfl | rfl | rfl | rfl : k = 0 ∨ k = 1 ∨ k = 2 ∨ k = 3 := by omega
  all_goals
    rw [(bits_nat .u32 32 (by decide) h32 x _ (by omega) (by omega)).2]
  · simp at hx; subst hx; simp
  · have := Nat.two_pow_add_eq_or_of_lt (i := 8) (b := x) (by simpa using hx) b
    rw [Nat.or_comm, show (256 : Nat) ^ 1 = 2 ^ 8 by decide, ← this]; congr 1; omega
  · have := Nat.two_pow_add_eq_or_of_lt (i := 16) (b := x) (by simpa using hx) b
    rw [Nat.or_comm, show (256 : Nat) ^ 2 = 2 ^ 16 by decide, ← this]; congr 1; omega
  · have := Nat.two_pow_add_eq_or_of_lt (i := 24) (b := x) (by simpa using hx) b
    rw [Nat.or_comm, show (256 : Nat) ^ 3 = 2 ^ 24 by decide, ← this]; congr 1; omega

def WordRel (s : ByteArray) (m : Nat) (i r : Value) : Prop := ∃ k x : Nat, k ≤ m ∧ i = .int .i64 k ∧ r = .int .u32 x ∧ Hid (x = lew (s.data.toList.take k))

set_option maxHeartbeats 800000 in
theorem word_c (s : ByteArray) (w : World) (hs : s.size ≤ 140737488351232) :
    Calls Try.prog 21 #[.string s] w fun e w' => e = .returned (.int .u32 (lew (s.data.toList.take 4))) ∧ w' = w := by
  obtain ⟨m, hm⟩ : ∃ m : Nat, m = min s.size 4 := ⟨_, rfl⟩
  have hmin : ∀ (w : World), (Builtin.min_ #[3, 3] 3 #[.int .i64 s.size, .int .i64 4]).run Try.prog w = .ok (.int .i64 m) w := fun w => by
    rw [show (m : Int) = min (s.size : Int) 4 by omega]; exact Lib.run_min_ints _ _ _ _ _ _ _
  have m4 : m ≤ 4 := by omega
  have ms : m ≤ s.size := by omega
  have HM := Lib.hid hm
  clear hm
  go_enter Try.func21, Try.ntmps21
  go_wp2
  go_loop [8, 3] (fun i r => WordRel s m i r) (fun i _ => m - (intOf i).toNat)
  case atStart => exact ⟨0, 0, Nat.zero_le _, rfl, rfl, Lib.hid (by simp [lew])⟩
  case round =>
    obtain ⟨k, x, hk, rfl, rfl, hx⟩ := hrel
    by_cases hlt : k < m
    · have hks : k < s.size := by omega
      have hk1 : k + 1 ≤ m := hlt
      have hb := (s[k]).toNat_lt
      have hstep := Lib.hid (lew_step s k hks)
      have hx1 : x < 256 ^ k := by rw [hx.out]; have := lew_lt (s.data.toList.take k); rw [List.length_take, Nat.min_eq_left (by simp; omega)] at this; exact this
      have hor := Lib.hid (or_join k x (s[k]).toNat (by omega) hx1 (by omega))
      clear hx1
      obtain rfl | rfl | rfl | rfl : k = 0 ∨ k = 1 ∨ k = 2 ∨ k = 3 := by omega
      all_goals
        go_wp2
        go_round
        case rel =>
          refine ⟨_, x + _, ?_, rfl, ?_, Lib.hid ((congrArg (· + _) hx.out).trans hstep.out.symm)⟩
          · exact hk1
          · refine congrArg (Value.int .u32) ?_
            rw [← hor.out]
            refine congrArg (bits BinOp.or IntKind.u32 _) ?_
            omega
        case measure => simp [intOf]; omega
    · go_wp2
      go_ret
      obtain rfl : k = m := by omega
      refine ⟨?_, rfl⟩
      rw [hx.out, HM.out]
      refine congrArg (fun l => Ending.returned (.int .u32 ((lew l : Nat) : Int))) ?_
      rcases Nat.le_total s.size 4 with h | h
      · rw [Nat.min_eq_left h, List.take_of_length_le (by simp), List.take_of_length_le (by simpa using h)]
      · rw [Nat.min_eq_right h]

def FourRel (s : ByteArray) (p : Nat) (i r : Value) : Prop := ∃ k x : Nat, k ≤ s.size ∧ i = .int .i64 k ∧ r = .int .u32 x ∧ Hid (x = lew (s.data.toList.take k) * p)

set_option maxHeartbeats 800000 in
theorem four_c (s : ByteArray) (w : World) (hs : s.size ≤ 4) :
    Calls Try.prog 24 #[.string s, .int .u64 0] w fun e w' => e = .returned (.int .u32 (lew s.data.toList)) ∧ w' = w := by
  go_enter Try.func24, Try.ntmps24
  go_wp2
  go_loop [6, 5] (fun i r => FourRel s 1 i r) (fun i _ => s.size - (intOf i).toNat)
  case atStart => exact ⟨0, 0, Nat.zero_le _, rfl, rfl, Lib.hid (by simp [lew])⟩
  case round =>
    obtain ⟨k, x, hk, rfl, rfl, hx⟩ := hrel
    by_cases hks : k < s.size
    · have hk1 : k + 1 ≤ s.size := hks
      have hb := (s[k]).toNat_lt
      have hstep := Lib.hid (lew_step s k hks)
      have hx1 : x < 256 ^ k := by rw [hx.out, Nat.mul_one]; have := lew_lt (s.data.toList.take k); rw [List.length_take, Nat.min_eq_left (by simp; omega)] at this; exact this
      obtain rfl | rfl | rfl | rfl : k = 0 ∨ k = 1 ∨ k = 2 ∨ k = 3 := by omega
      all_goals
        go_wp2
        go_round
        case rel =>
          refine ⟨_, x + _, ?_, rfl, ?_, Lib.hid (by rw [hstep.out, hx.out, Nat.mul_one, Nat.mul_one])⟩
          · exact hk1
          · refine congrArg (Value.int .u32) ?_
            omega
        case measure => simp [intOf]; omega
    · go_wp2
      go_ret
      obtain rfl : k = s.size := by omega
      refine ⟨?_, rfl⟩
      rw [hx.out, Nat.mul_one]
      refine congrArg (fun l => Ending.returned (.int .u32 ((lew l : Nat) : Int))) ?_
      rw [List.take_of_length_le (by simp)]

set_option maxHeartbeats 800000 in
theorem four8_c (s : ByteArray) (w : World) (hs : s.size ≤ 3) :
    Calls Try.prog 24 #[.string s, .int .u64 8] w fun e w' => e = .returned (.int .u32 ((lew s.data.toList * 256 : Nat) : Int)) ∧ w' = w := by
  go_enter Try.func24, Try.ntmps24
  go_wp2
  go_loop [6, 5] (fun i r => FourRel s 256 i r) (fun i _ => s.size - (intOf i).toNat)
  case atStart => exact ⟨0, 0, Nat.zero_le _, rfl, rfl, Lib.hid (by simp [lew])⟩
  case round =>
    obtain ⟨k, x, hk, rfl, rfl, hx⟩ := hrel
    by_cases hks : k < s.size
    · have hk1 : k + 1 ≤ s.size := hks
      have hb := (s[k]).toNat_lt
      have hstep := Lib.hid (lew_step s k hks)
      have hx1 : x < 256 ^ k * 256 := by rw [hx.out]; have := lew_lt (s.data.toList.take k); rw [List.length_take, Nat.min_eq_left (by simp; omega)] at this; omega
      obtain rfl | rfl | rfl : k = 0 ∨ k = 1 ∨ k = 2 := by omega
      all_goals
        go_wp2
        go_round
        case rel =>
          refine ⟨_, x + _, ?_, rfl, ?_, Lib.hid (by rw [hstep.out, hx.out, Nat.add_mul])⟩
          · exact hk1
          · refine congrArg (Value.int .u32) ?_
            omega
        case measure => simp [intOf]; omega
    · go_wp2
      go_ret
      obtain rfl : k = s.size := by omega
      refine ⟨?_, rfl⟩
      rw [hx.out]
      refine congrArg (fun l => Ending.returned (.int .u32 ((lew l * 256 : Nat) : Int))) ?_
      rw [List.take_of_length_le (by simp)]

end Go.Proofs.Ytfikkjdffmchfaa
