/- The document's writers of numbers: Int, Word, Count, Bool. -/
import Derived.Test.YtanmfldgillodaaGreatWrite
set_option linter.unusedSimpArgs false
set_option linter.unusedVariables false
namespace Go.Proofs.YtanmfldgillodaaGreat
open Go.RowKit

/-- A number of 64 bits as it is written. -/
def u64 (n : Int) : Nat := (n % 18446744073709551616).toNat
theorem u64_lt (n : Int) : u64 n < 18446744073709551616 := by unfold u64; omega
theorem u64_eq (n : Int) : ((u64 n : Nat) : Int) = n % 18446744073709551616 := by unfold u64; omega

def encI (x : Int) : List UInt8 := leB 8 (u64 x)

/-- A slice of bytes that has grown. -/
def Grew (w w' : World) (v : Value) (out : List UInt8) (g : Option Nat) (more : List UInt8) : Prop :=
  ∃ g', Own w' 5 1 v (out ++ more).length ((out ++ more).map bv) g' ∧ Kept (fun k => g = some k) w w' ∧ ∀ k, g' = some k → g = some k ∨ w.heap.size ≤ k

theorem Grew.none {w : World} {v : Value} {out : List UInt8} {g : Option Nat} (h : Own w 5 1 v out.length (out.map bv) g) : Grew w w v out g [] :=
  ⟨g, by simpa using h, Kept.refl _ _, fun k hk => .inl hk⟩

theorem Grew.byte {w wr w5 : World} {g g' g5 a5 : Option _} {k5 : Nat} {out more L : List UInt8} {b : UInt8} {o : Obj} (hkk : Kept (fun k => g = some k) w wr) (hgg : ∀ k, g' = some k → g = some k ∨ w.heap.size ≤ k)
    (hown5 : Own w5 5 1 (.slice a5 (L.length + 1) k5) (L.length + 1) (L.map bv ++ [b].map bv) g5) (hk5 : Kept (fun k => g' = some k) (wr.alloc o) w5) (hg5 : ∀ k, g5 = some k → g' = some k ∨ (wr.alloc o).heap.size ≤ k) (hL : out ++ more = L ++ [b]) :
    Grew w w5 (.slice a5 (L.length + 1) k5) out g more := by
  have hs : (wr.alloc o).heap.size = wr.heap.size + 1 := by simp
  have h0 := hkk.size
  refine ⟨g5, ?_, (hkk.al o).thn hk5 (fun i hi => ?_), fun k hk => ?_⟩
  · rw [hL, List.length_append, List.map_append]
    exact hown5
  · rcases hgg i hi with h | h
    · exact .inl h
    · exact .inr h
  · rcases hg5 k hk with h | h
    · exact hgg k h
    · exact .inr (by omega)

theorem pow64 {k : Nat} (hk : k < 8) : (18446744073709551616 : Int) = 2 ^ (8 * k) * (256 * 2 ^ (56 - 8 * k)) := by
  have h : k = 0 ∨ k = 1 ∨ k = 2 ∨ k = 3 ∨ k = 4 ∨ k = 5 ∨ k = 6 ∨ k = 7 := by omega
  rcases h with rfl | rfl | rfl | rfl | rfl | rfl | rfl | rfl <;> decide

/-- Byte k of a number, by a shift of the signed one. -/
theorem sar_byte (n : Int) (k : Nat) (hk : k < 8) : (n / 2 ^ (8 * k)) % 256 = ((u64 n / 256 ^ k % 256 : Nat) : Int) := by
  have hp : ((256 : Nat) ^ k) = 2 ^ (8 * k) := by rw [Nat.pow_mul]
  rw [hp, Int.natCast_emod, Int.natCast_ediv, Int.natCast_pow, u64_eq]
  have hpos : (0 : Int) < 2 ^ (8 * k) := Int.pow_pos (by decide)
  have h1 : n = n % 18446744073709551616 + 2 ^ (8 * k) * ((256 * 2 ^ (56 - 8 * k)) * (n / 18446744073709551616)) := by
    have := Int.emod_add_mul_ediv n 18446744073709551616
    rw [← Int.mul_assoc, ← pow64 hk]
    omega
  conv => lhs; rw [h1]
  rw [Int.add_mul_ediv_left _ _ (by omega), Int.mul_assoc, Int.add_mul_emod_self_left]
  rfl

set_option maxRecDepth 100000 in
set_option maxHeartbeats 1600000 in
theorem int_c {w : World} {v : Value} {out : List UInt8} {g : Option Nat} (h : Own w 5 1 v out.length (out.map bv) g) (n : Int) (hm : out.length ≤ 100000000000000) :
    Calls Tryz.prog 81 #[v, .int .i64 n] w fun e w' => ∃ v', e = .returned v' ∧ Grew w w' v' out g (encI n) := by
  obtain ⟨i0, hi, hz0, hz1, hz2⟩ := info_all u8info
  go_enter Tryz.func81, Tryz.ntmps81
  go_wp2
  go_loopw [6, 0] (fun i x w' => ∃ k : Nat, k ≤ 8 ∧ i = .int .i64 k ∧ Grew w w' x out g (leB k (u64 n))) (fun i _ _ => 8 - (intOf i).toNat)
  case atStart => exact ⟨0, by omega, rfl, by simpa [leB] using Grew.none h⟩
  case round =>
    obtain ⟨k, hk, rfl, g', ho, hkk, hgg⟩ := hrel
    by_cases hk2 : k < 8
    · have hki : (k : Int) < 8 := by omega
      have hLe : out ++ leB (k + 1) (u64 n) = (out ++ leB k (u64 n)) ++ [UInt8.ofNat (u64 n / 256 ^ k % 256)] := by rw [leB_snoc, List.append_assoc]
      have HLe := Lib.hid hLe
      clear hLe
      obtain ⟨L, hL⟩ : ∃ L, L = out ++ leB k (u64 n) := ⟨_, rfl⟩
      have hLl : L.length ≤ 100000000000008 := by rw [hL, List.length_append, leB_length]; omega
      rw [← hL] at ho HLe
      clear hL
      obtain ⟨a, cp, rfl, hac, -⟩ := ho.shape
      obtain ⟨B, hB⟩ : ∃ B : Nat, B = u64 n / 256 ^ k % 256 := ⟨_, rfl⟩
      have hBl : B < 256 := by rw [hB]; exact Nat.mod_lt _ (by decide)
      have es := sar_byte n k hk2
      rw [← hB] at es HLe
      clear hB
      have w8 : IntKind.i64.wrap (8 * (k : Int)) = 8 * (k : Int) := IntWalk.i64_in _ (by omega)
      have hnn : ¬ (8 * (k : Int)) < 0 := by omega
      have r4 : ∀ w : World, Reads (w.alloc (.cells #[.int .u8 B] 5)) 1 (.slice (some ⟨w.heap.size, 0, none⟩) 1 1) 1 ([UInt8.ofNat B].map bv) (some w.heap.size) := fun w => by
        have := (own_alloc w [.int .u8 B] 5 1 rfl (by decide)).reads
        simpa [bv_ofNat B hBl] using this
      go_wp2_with (at_builtin; refine wpList_append_Own rfl _ _ 41 41 rfl 5 i0 (.int .u8 0) 1 1 Tryz.underlying41 hi hz0 hz1 hz2 rfl rfl (ho.kept (Kept.alloc (fun _ => False) _ _) (fun _ _ h => h)) rfl (by exact (r4 _).src Tryz.underlying41 (bv_one _)) (by unfold maxLen; omega) (by omega) ?_; intro a5 k5 w5 g5 hown5 hk5 hg5)
      exact ⟨⟨k + 1, by omega, by simp, Grew.byte hkk hgg hown5 hk5 hg5 HLe.out⟩, by simp [intOf]; omega⟩
    · obtain rfl : k = 8 := by omega
      go_wp2
      go_ret
      exact ⟨_, rfl, g', ho, hkk, hgg⟩

set_option maxRecDepth 100000 in
set_option maxHeartbeats 1600000 in
theorem word4_c {w : World} {v : Value} {out : List UInt8} {g : Option Nat} (h : Own w 5 1 v out.length (out.map bv) g) (n : Nat) (hn : n < 4294967296) (hm : out.length ≤ 100000000000000) :
    Calls Tryz.prog 144 #[v, .int .u32 n] w fun e w' => ∃ v', e = .returned v' ∧ Grew w w' v' out g (leB 4 n) := by
  obtain ⟨i0, hi, hz0, hz1, hz2⟩ := info_all u8info
  go_enter Tryz.func144, Tryz.ntmps144
  go_wp2
  go_loopw [6, 0] (fun i x w' => ∃ k : Nat, k ≤ 4 ∧ i = .int .i64 k ∧ Grew w w' x out g (leB k n)) (fun i _ _ => 4 - (intOf i).toNat)
  case atStart => exact ⟨0, by omega, rfl, by simpa [leB] using Grew.none h⟩
  case round =>
    obtain ⟨k, hk, rfl, g', ho, hkk, hgg⟩ := hrel
    by_cases hk2 : k < 4
    · have hki : (k : Int) < 4 := by omega
      have hLe : out ++ leB (k + 1) n = (out ++ leB k n) ++ [UInt8.ofNat (n / 256 ^ k % 256)] := by rw [leB_snoc, List.append_assoc]
      have HLe := Lib.hid hLe
      clear hLe
      obtain ⟨L, hL⟩ : ∃ L, L = out ++ leB k n := ⟨_, rfl⟩
      have hLl : L.length ≤ 100000000000008 := by rw [hL, List.length_append, leB_length]; omega
      rw [← hL] at ho HLe
      clear hL
      obtain ⟨a, cp, rfl, hac, -⟩ := ho.shape
      obtain ⟨B, hB⟩ : ∃ B : Nat, B = n / 256 ^ k % 256 := ⟨_, rfl⟩
      have hBl : B < 256 := by rw [hB]; exact Nat.mod_lt _ (by decide)
      have es : (n : Int) / 2 ^ (8 * k) % 256 = (B : Int) := by
        have := shr_byte n k
        rw [IntKind.wrap_u8, show (8 * (k : Int)).toNat = 8 * k by omega] at this
        rw [this, hB]
      rw [← hB] at HLe
      clear hB
      have w8 : IntKind.i64.wrap (8 * (k : Int)) = 8 * (k : Int) := IntWalk.i64_in _ (by omega)
      have hnn : ¬ (8 * (k : Int)) < 0 := by omega
      have r4 : ∀ w : World, Reads (w.alloc (.cells #[.int .u8 B] 5)) 1 (.slice (some ⟨w.heap.size, 0, none⟩) 1 1) 1 ([UInt8.ofNat B].map bv) (some w.heap.size) := fun w => by
        have := (own_alloc w [.int .u8 B] 5 1 rfl (by decide)).reads
        simpa [bv_ofNat B hBl] using this
      go_wp2_with (at_builtin; refine wpList_append_Own rfl _ _ 41 41 rfl 5 i0 (.int .u8 0) 1 1 Tryz.underlying41 hi hz0 hz1 hz2 rfl rfl (ho.kept (Kept.alloc (fun _ => False) _ _) (fun _ _ h => h)) rfl (by exact (r4 _).src Tryz.underlying41 (bv_one _)) (by unfold maxLen; omega) (by omega) ?_; intro a5 k5 w5 g5 hown5 hk5 hg5)
      exact ⟨⟨k + 1, by omega, by simp, Grew.byte hkk hgg hown5 hk5 hg5 HLe.out⟩, by simp [intOf]; omega⟩
    · obtain rfl : k = 4 := by omega
      go_wp2
      go_ret
      exact ⟨_, rfl, g', ho, hkk, hgg⟩

theorem leB_mod (k n : Nat) : leB k (n % 256 ^ k) = leB k n := by
  induction k generalizing n with
  | zero => rfl
  | succ k ih =>
    have h1 : n % 256 ^ (k + 1) % 256 = n % 256 := Nat.mod_mod_of_dvd _ ⟨256 ^ k, by rw [Nat.pow_succ, Nat.mul_comm]⟩
    have h2 : n % 256 ^ (k + 1) / 256 = n / 256 % 256 ^ k := by rw [Nat.pow_succ, Nat.mul_comm (256 ^ k), Nat.mod_mul_right_div_self]
    simp only [leB, h1, h2, ih]

set_option maxRecDepth 100000 in
theorem countRef_c {w : World} {v : Value} {out : List UInt8} {g : Option Nat} (h : Own w 5 1 v out.length (out.map bv) g) (n : Nat) (hm : out.length ≤ 100000000000000) :
    Calls Tryz.prog 84 #[v, .int .i64 n] w fun e w' => ∃ v', e = .returned v' ∧ Grew w w' v' out g (leB 4 n) := by
  obtain ⟨m, hm1⟩ : ∃ m, m = n % 4294967296 := ⟨_, rfl⟩
  have hm2 : m < 4294967296 := by omega
  have e1 : (n : Int) % 4294967296 = (m : Int) := by omega
  have e2 : leB 4 n = leB 4 m := by rw [hm1]; exact (leB_mod 4 n).symm
  rw [e2]
  clear hm1 e2
  go_enter Tryz.func84, Tryz.ntmps84
  go_wp2_with fail
  refine (word4_c h m hm2 hm).mono ?_
  rintro e w1 ⟨v1, rfl, hg⟩
  go_wp2
  go_ret
  exact ⟨_, rfl, hg⟩

/-- A truth value as it is written. -/
def bB (b : Bool) : List UInt8 := [if b then 1 else 0]

theorem boolRef_c {w : World} {v : Value} {out : List UInt8} {g : Option Nat} (h : Own w 5 1 v out.length (out.map bv) g) (b : Bool) (hm : out.length ≤ 100000000000000) :
    Calls Tryz.prog 145 #[v, .bool b] w fun e w' => ∃ v', e = .returned v' ∧ Grew w w' v' out g (bB b) := by
  obtain ⟨i0, hi, hz0, hz1, hz2⟩ := info_all u8info
  obtain ⟨a, cp, rfl, hac, -⟩ := h.shape
  have r0 : ∀ (B : Nat) (hB : B < 256) (w : World), Reads (w.alloc (.cells #[.int .u8 B] 5)) 1 (.slice (some ⟨w.heap.size, 0, none⟩) 1 1) 1 ([UInt8.ofNat B].map bv) (some w.heap.size) := fun B hB w => by
    have := (own_alloc w [.int .u8 B] 5 1 rfl (by decide)).reads
    simpa [bv_ofNat B hB] using this
  cases b with
  | true =>
    go_enter Tryz.func145, Tryz.ntmps145
    go_wp2_with (at_builtin; refine wpList_append_Own rfl _ _ 41 41 rfl 5 i0 (.int .u8 0) 1 1 Tryz.underlying41 hi hz0 hz1 hz2 rfl rfl (h.kept (Kept.alloc (fun _ => False) _ _) (fun _ _ h => h)) rfl (by exact (r0 1 (by decide) _).src Tryz.underlying41 (bv_one _)) (by unfold maxLen; omega) (by omega) ?_; intro a5 k5 w5 g5 hown5 hk5 hg5)
    go_ret
    exact ⟨_, rfl, Grew.byte (Kept.refl _ _) (fun k hk => .inl hk) hown5 hk5 hg5 rfl⟩
  | false =>
    go_enter Tryz.func145, Tryz.ntmps145
    go_wp2_with (at_builtin; refine wpList_append_Own rfl _ _ 41 41 rfl 5 i0 (.int .u8 0) 1 1 Tryz.underlying41 hi hz0 hz1 hz2 rfl rfl (h.kept (Kept.alloc (fun _ => False) _ _) (fun _ _ h => h)) rfl (by exact (r0 0 (by decide) _).src Tryz.underlying41 (bv_one _)) (by unfold maxLen; omega) (by omega) ?_; intro a5 k5 w5 g5 hown5 hk5 hg5)
    go_ret
    exact ⟨_, rfl, Grew.byte (Kept.refl _ _) (fun k hk => .inl hk) hown5 hk5 hg5 rfl⟩

end Go.Proofs.YtanmfldgillodaaGreat
