/- Contracts of Good, in the program and in the reference. -/
import Derived.Test.YtfikkjdffmchfaaRows
import Derived.Test.YtfikkjdffmchfaaLib
set_option linter.unusedSimpArgs false
set_option linter.unusedVariables false
namespace Go.Proofs.Ytfikkjdffmchfaa
open Go.RowKit

/-- Is it a byte of a name? -/
def okByte (b : UInt8) : Bool := decide (33 ≤ b.toNat) && decide (b.toNat ≤ 126)

/-- Is it a name? -/
def goodB (l : List UInt8) : Bool := l.all okByte && decide (1 ≤ l.length) && decide (l.length ≤ 64)

theorem take_snoc' (s : ByteArray) (k : Nat) (h : k < s.size) : s.data.toList.take (k + 1) = s.data.toList.take k ++ [s[k]] := by
  rw [List.take_succ_eq_append_getElem (by simpa using h)]; rfl

theorem good_bad (s : ByteArray) (k : Nat) (h : k < s.size) (hb : okByte s[k] = false) : goodB s.data.toList = false := by
  unfold goodB
  have : s.data.toList.all okByte = false := by
    rw [List.all_eq_false]
    refine ⟨s[k], ?_, by simp [hb]⟩
    have : s.data.toList[k]'(by simpa using h) ∈ s.data.toList := List.getElem_mem _
    exact this
  simp [this]

theorem good_end (s : ByteArray) (h : (s.data.toList.take s.size).all okByte = true) : goodB s.data.toList = (decide (1 ≤ s.size) && decide (s.size ≤ 64)) := by
  rw [List.take_of_length_le (by simp)] at h
  unfold goodB
  rw [h]
  simp

def GoodRel (s : ByteArray) (i : Value) : Prop := ∃ k : Nat, k ≤ s.size ∧ i = .int .i64 k ∧ (s.data.toList.take k).all okByte = true

set_option maxHeartbeats 800000 in
theorem good_c (s : ByteArray) (w : World) (hs : s.size ≤ 140737488351232) (r : Bool) (hr : goodB s.data.toList = r) :
    Calls Try.prog 10 #[.string s] w fun e w' => e = .returned (.bool r) ∧ w' = w := by
  subst hr
  go_enter Try.func10, Try.ntmps10
  go_wp2
  go_loop [7] (fun i => GoodRel s i) (fun i => s.size - (intOf i).toNat)
  case atStart => exact ⟨0, Nat.zero_le _, rfl, by simp⟩
  case round =>
    obtain ⟨k, hk, rfl, hall⟩ := hrel
    have HA := Lib.hid hall
    clear hall
    by_cases hlt : k < s.size
    · by_cases h1 : (s[k].toNat : Int) < 33
      · go_wp2
        go_ret
        rw [good_bad s k hlt (by unfold okByte; simp; omega)]
        exact ⟨rfl, rfl⟩
      · by_cases h2 : 126 < (s[k].toNat : Int)
        · go_wp2
          go_ret
          rw [good_bad s k hlt (by unfold okByte; simp; omega)]
          exact ⟨rfl, rfl⟩
        · go_wp2
          go_round
          case rel => exact ⟨k + 1, by omega, by go_num, by rw [take_snoc' s k hlt, List.all_append, HA.out]; unfold okByte; simp; omega⟩
          case measure => simp [intOf]; omega
    · obtain rfl : k = s.size := by omega
      have he := good_end s HA.out
      have HE := Lib.hid he
      clear he
      by_cases h0 : s.size = 0
      · have e0 : s.toList = [] := by rw [ByteArray.toList_eq]; exact List.eq_nil_of_length_eq_zero (by simpa using h0)
        go_wp2
        go_ret
        refine ⟨?_, rfl⟩
        rw [HE.out]
        simp [e0, h0]
      · have e0 : ¬ s.toList = [] := by rw [ByteArray.toList_eq]; intro h; exact h0 (by have := congrArg List.length h; simpa using this)
        have e1 : s.toList.isEmpty = false := by simpa using e0
        by_cases h64 : s.size ≤ 64
        · have h64' : decide ((s.size : Int) ≤ 64) = true := by simp; omega
          go_wp2
          go_ret
          refine ⟨?_, rfl⟩
          rw [HE.out]
          simp [e0, h64]
          omega
        · have h64' : decide ((s.size : Int) ≤ 64) = false := by simp; omega
          go_wp2
          go_ret
          refine ⟨?_, rfl⟩
          rw [HE.out]
          simp [h64]

set_option maxHeartbeats 800000 in
theorem goodRef_c (s : ByteArray) (w : World) (hs : s.size ≤ 140737488351232) (r : Bool) (hr : goodB s.data.toList = r) :
    Calls Try.prog 11 #[.string s] w fun e w' => e = .returned (.bool r) ∧ w' = w := by
  subst hr
  go_enter Try.func11, Try.ntmps11
  go_wp2
  go_loop [3] (fun i => GoodRel s i) (fun i => s.size - (intOf i).toNat)
  case atStart => exact ⟨0, Nat.zero_le _, rfl, by simp⟩
  case round =>
    obtain ⟨k, hk, rfl, hall⟩ := hrel
    have HA := Lib.hid hall
    clear hall
    by_cases hlt : k < s.size
    · by_cases h1 : (s[k].toNat : Int) < 33
      · have q1 : decide ((s[k].toNat : Int) < 33) = true := by simpa using h1
        go_wp2
        go_ret
        rw [good_bad s k hlt (by unfold okByte; simp; omega)]
        exact ⟨rfl, rfl⟩
      · have q1 : decide ((s[k].toNat : Int) < 33) = false := by simpa using h1
        by_cases h2 : 126 < (s[k].toNat : Int)
        · have q2 : decide (126 < (s[k].toNat : Int)) = true := by simpa using h2
          go_wp2
          go_ret
          rw [good_bad s k hlt (by unfold okByte; simp; omega)]
          exact ⟨rfl, rfl⟩
        · have q2 : decide (126 < (s[k].toNat : Int)) = false := by simpa using h2
          go_wp2
          go_round
          case rel => exact ⟨k + 1, by omega, by go_num, by rw [take_snoc' s k hlt, List.all_append, HA.out]; unfold okByte; simp; omega⟩
          case measure => simp [intOf]; omega
    · obtain rfl : k = s.size := by omega
      have he := good_end s HA.out
      have HE := Lib.hid he
      clear he
      by_cases h0 : s.size = 0
      · have q0 : decide ((1 : Int) ≤ (s.size : Int)) = false := by simp; omega
        go_wp2
        go_ret
        refine ⟨?_, rfl⟩
        rw [HE.out]
        simp [h0]
      · have q0 : decide ((1 : Int) ≤ (s.size : Int)) = true := by simp; omega
        by_cases h64 : s.size ≤ 64
        · have h64' : decide ((s.size : Int) ≤ 64) = true := by simp; omega
          go_wp2
          go_ret
          refine ⟨?_, rfl⟩
          rw [HE.out]
          simp [h64]
          omega
        · have h64' : decide ((s.size : Int) ≤ 64) = false := by simp; omega
          go_wp2
          go_ret
          refine ⟨?_, rfl⟩
          rw [HE.out]
          simp [h64]

end Go.Proofs.Ytfikkjdffmchfaa
