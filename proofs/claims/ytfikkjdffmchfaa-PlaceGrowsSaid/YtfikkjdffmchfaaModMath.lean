/- The stable modulus, in plain numbers. -/
namespace Go.Proofs.Ytfikkjdffmchfaa

/-- The stable modulus, with the mask 2^j - 1. -/
def smodJ (x n j : Nat) : Nat := if x % 2 ^ j < n then x % 2 ^ j else x % 2 ^ (j - 1)

/-- j is the least one, from 1 on, with n ≤ 2^j. -/
def IsMask (n j : Nat) : Prop := 1 ≤ j ∧ n ≤ 2 ^ j ∧ (j = 1 ∨ 2 ^ (j - 1) < n)

theorem isMask_unique {n j k : Nat} (hj : IsMask n j) (hk : IsMask n k) : j = k := by
  obtain ⟨a1, a2, a3⟩ := hj
  obtain ⟨b1, b2, b3⟩ := hk
  rcases Nat.lt_trichotomy j k with h | h | h
  · rcases b3 with rfl | b3
    · omega
    · have : 2 ^ j ≤ 2 ^ (k - 1) := Nat.pow_le_pow_right (by omega) (by omega)
      omega
  · exact h
  · rcases a3 with rfl | a3
    · omega
    · have : 2 ^ k ≤ 2 ^ (j - 1) := Nat.pow_le_pow_right (by omega) (by omega)
      omega

theorem smodJ_lt {x n j : Nat} (hn : 2 ≤ n) (hj : IsMask n j) : smodJ x n j < n := by
  obtain ⟨a1, a2, a3⟩ := hj
  unfold smodJ
  split
  · assumption
  · rename_i h
    rcases a3 with rfl | a3
    · have : x % 2 ^ 1 < 2 := Nat.mod_lt _ (by omega)
      omega
    · have : x % 2 ^ (j - 1) < 2 ^ (j - 1) := Nat.mod_lt _ (Nat.two_pow_pos _)
      omega

/-- From n to n + 1 only those change that go to n. -/
theorem smodJ_step {x n j k : Nat} (hn : 2 ≤ n) (hj : IsMask n j) (hk : IsMask (n + 1) k) : smodJ x (n + 1) k = smodJ x n j ∨ smodJ x (n + 1) k = n := by
  obtain ⟨a1, a2, a3⟩ := hj
  by_cases h : n + 1 ≤ 2 ^ j
  · have hk' : IsMask (n + 1) j := ⟨a1, h, a3.imp id (fun h => by omega)⟩
    obtain rfl := isMask_unique hk hk'
    unfold smodJ
    by_cases h1 : x % 2 ^ k < n
    · rw [if_pos h1, if_pos (by omega)]; exact .inl rfl
    · rw [if_neg h1]
      by_cases h2 : x % 2 ^ k < n + 1
      · rw [if_pos h2]; right; omega
      · rw [if_neg h2]; exact .inl rfl
  · have hnj : n = 2 ^ j := by omega
    have hp : 2 ^ (j + 1) = 2 * 2 ^ j := by rw [Nat.pow_succ]; omega
    have hk' : IsMask (n + 1) (j + 1) := ⟨by omega, by omega, .inr (by simp; omega)⟩
    obtain rfl := isMask_unique hk hk'
    unfold smodJ
    have hlt : x % 2 ^ j < n := by rw [hnj]; exact Nat.mod_lt _ (Nat.two_pow_pos _)
    rw [if_pos hlt]
    by_cases h2 : x % 2 ^ (j + 1) < n + 1
    · rw [if_pos h2]
      by_cases h3 : x % 2 ^ (j + 1) = n
      · exact .inr h3
      · left
        have h4 : x % 2 ^ (j + 1) < 2 ^ j := by omega
        have h5 : x % 2 ^ (j + 1) % 2 ^ j = x % 2 ^ j := Nat.mod_mod_of_dvd _ ⟨2, by rw [hp]; omega⟩
        rw [← h5, Nat.mod_eq_of_lt h4]
    · rw [if_neg h2]; simp

theorem isMask_log {n : Nat} (h : 2 ≤ n) : IsMask n (Nat.log2 (n - 1) + 1) := by
  have h0 : n - 1 ≠ 0 := by omega
  have h1 := Nat.log2_self_le h0
  have h2 : n - 1 < 2 ^ (Nat.log2 (n - 1) + 1) := Nat.lt_log2_self
  exact ⟨by omega, by omega, .inr (by simp; omega)⟩

/-- The stable modulus. -/
def smod (x n : Nat) : Nat := if n < 2 then 0 else smodJ x (min n 1073741824) (Nat.log2 (min n 1073741824 - 1) + 1)

theorem smod_lt {x n : Nat} (h : 1 ≤ n) : smod x n < n := by
  unfold smod
  split
  · omega
  · have := smodJ_lt (x := x) (n := min n 1073741824) (by omega) (isMask_log (by omega))
    omega

theorem smod_step {x n : Nat} (h : 1 ≤ n) (h2 : n < 1073741824) : smod x (n + 1) = smod x n ∨ smod x (n + 1) = n := by
  by_cases h1 : n = 1
  · subst h1
    have h3 := smod_lt (x := x) (n := 2) (by omega)
    have h4 : smod x 1 = 0 := rfl
    show smod x 2 = smod x 1 ∨ smod x 2 = 1
    omega
  · unfold smod
    rw [if_neg (by omega), if_neg (by omega), Nat.min_eq_left (by omega), Nat.min_eq_left (by omega)]
    exact smodJ_step (by omega) (isMask_log (by omega)) (isMask_log (by omega))

end Go.Proofs.Ytfikkjdffmchfaa
