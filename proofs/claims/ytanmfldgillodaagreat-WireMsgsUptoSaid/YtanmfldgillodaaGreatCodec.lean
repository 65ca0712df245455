/- Contracts of the codec's word. -/
import Derived.Test.YtanmfldgillodaaGreatCrc2
import Derived.Test.YtanmfldgillodaaGreatRegionS
set_option linter.unusedSimpArgs false
set_option linter.unusedVariables false
namespace Go.Proofs.YtanmfldgillodaaGreat
open Go.RowKit

/-- Bytes as a number, the lowest first. -/
def leN : List UInt8 → Nat
  | [] => 0
  | b :: r => b.toNat + 256 * leN r

theorem leN_lt (l : List UInt8) : leN l < 256 ^ l.length := by
  induction l with
  | nil => simp [leN]
  | cons b r ih =>
    have := UInt8.toNat_lt b
    simp only [leN, List.length_cons, Nat.pow_succ]
    omega

theorem leN_snoc (l : List UInt8) (b : UInt8) : leN (l ++ [b]) = leN l + b.toNat * 256 ^ l.length := by
  induction l with
  | nil => simp [leN]
  | cons c r ih =>
    simp only [List.cons_append, leN, ih, List.length_cons, Nat.pow_succ]
    rw [Nat.mul_add, Nat.mul_comm (256 ^ r.length) 256, ← Nat.mul_assoc, ← Nat.mul_assoc, Nat.mul_comm 256 b.toNat]
    omega

theorem leN_take (bs : List UInt8) (k : Nat) (hk : k < bs.length) : leN (bs.take (k + 1)) = leN (bs.take k) + bs[k].toNat * 256 ^ k := by
  rw [List.take_succ_eq_append_getElem hk, leN_snoc, List.length_take, Nat.min_eq_left (by omega)]

theorem u8size : (Tryz.prog.info? 5).map (·.size) = some 1 := by kernel_rfl

theorem or_high (V B k : Nat) (hV : V < 256 ^ k) (hB : B < 256) (hk : k < 8) : bits BinOp.or IntKind.u64 (V : Int) (IntKind.u64.wrap ((B : Int) * 2 ^ (8 * k))) = ((V + B * 256 ^ k : Nat) : Int) := by
  have hp : (256 : Nat) ^ k = 2 ^ (8 * k) := by rw [Nat.pow_mul]
  have h8 : 256 ^ (k + 1) ≤ 256 ^ 8 := Nat.pow_le_pow_right (by decide) (by omega)
  have hBk : B * 256 ^ k + 256 ^ k ≤ 256 ^ (k + 1) := by rw [Nat.pow_succ, Nat.mul_comm (256 ^ k) 256, ← Nat.succ_mul]; exact Nat.mul_le_mul_right _ hB
  have h64 : (256 : Nat) ^ 8 = 18446744073709551616 := by decide
  have e0 : IntKind.u64.wrap ((B : Int) * 2 ^ (8 * k)) = ((B * 256 ^ k : Nat) : Int) := by
    have e : (B : Int) * 2 ^ (8 * k) = ((B * 256 ^ k : Nat) : Int) := by rw [hp]; push_cast; rfl
    rw [e]
    have : IntKind.u64.wrap ((B * 256 ^ k : Nat) : Int) = ((B * 256 ^ k : Nat) : Int) % 18446744073709551616 := by simp [IntKind.wrap, IntKind.bits, IntKind.signed]
    rw [this]
    omega
  rw [e0, (bits_nat .u64 64 (by decide) (fun n h0 h1 => by
    have : IntKind.u64.wrap n = n % 18446744073709551616 := by simp [IntKind.wrap, IntKind.bits, IntKind.signed]
    rw [this]; omega) V (B * 256 ^ k) (by omega) (by omega)).2]
  congr 1
  rw [Nat.or_comm, hp, Nat.mul_comm B, ← Nat.two_pow_add_eq_or_of_lt (by rw [← hp]; exact hV), Nat.add_comm]

set_option maxRecDepth 100000 in
set_option maxHeartbeats 1600000 in
theorem wordRead_c {w : World} {c : Nat} {vo vi : Value} {xs ys : List UInt8} {g : Option Nat} (v0 : Int) (h : w.heap[c]? = some (.cells #[vo, vi, .bool true] 137)) (hr : Reads w 1 vi (xs ++ ys).length ((xs ++ ys).map bv) g) (hg : ∀ k, g = some k → k ≠ c) (n : Int) (hn : n = xs.length) (hn8 : xs.length ≤ 8) (hm : (xs ++ ys).length ≤ 140737488351232) :
    Calls Tryz.prog 139 #[.pointer (some ⟨c, 0, none⟩), .int .u64 v0, .int .i64 n] w fun e w' => e = .returned (.int .u64 (leN xs)) ∧ ∃ vi', w'.heap[c]? = some (.cells #[vo, vi', .bool true] 137) ∧ Reads w' 1 vi' ys.length (ys.map bv) g ∧ Kept (· = c) w w' := by
  obtain ⟨bs, hbs⟩ : ∃ bs, bs = xs ++ ys := ⟨_, rfl⟩
  have hlen : bs.length = xs.length + ys.length := by rw [hbs, List.length_append]
  have htk : bs.take xs.length = xs := by rw [hbs, List.take_left']; rfl
  have hdr : bs.drop xs.length = ys := by rw [hbs, List.drop_left']; rfl
  rw [← hbs] at hr hm
  obtain ⟨N, hN⟩ : ∃ N : Nat, N = xs.length := ⟨_, rfl⟩
  rw [← hN] at hn hn8 hlen htk hdr
  subst hn
  have HL := Lib.hid hlen
  have hNle : N ≤ bs.length := by omega
  clear hlen
  have HT := Lib.hid htk
  have HDR := Lib.hid hdr
  clear hbs htk hdr hN
  obtain ⟨a, cp, rfl, hc⟩ := hr.shape
  have c1 : w.cell? ⟨c, 1, none⟩ = some (.slice a bs.length cp) := cell_in h
  have c2 : w.cell? ⟨c, 2, none⟩ = some (.bool true) := cell_in h
  have hl := lt_in h
  have f1 : w.frozen? ⟨c, 1, none⟩ = false := frozen_in h
  have hge : ¬ (bs.length : Int) < (N : Int) := by omega
  have HC := Lib.hid h
  clear h
  obtain ⟨a2, c2', hsl, hrd⟩ := hr.sliceFrom_run (P := Tryz.prog) (t := 41) (lo := (N : Int)) Tryz.underlying41 u8size hc (by omega) (by omega)
  have HRD := Lib.hid hrd
  clear hrd
  go_enter Tryz.func139, Tryz.ntmps139
  go_wp2
  go_loopw [44, 1] (fun i x w' => (∃ k V : Nat, k ≤ N ∧ i = .int .i64 k ∧ x = .int .u64 V ∧ V < 256 ^ k ∧ Hid (V = leN (bs.take k))) ∧ w' = w) (fun i _ _ => N - (intOf i).toNat)
  case atStart => exact ⟨⟨0, 0, by omega, rfl, rfl, by decide, Lib.hid rfl⟩, rfl⟩
  case round =>
    obtain ⟨⟨k, V, hk, rfl, rfl, hV, hVr⟩, rfl⟩ := hrel
    by_cases hk2 : k < N
    · have hki : (k : Int) < (N : Int) := by omega
      have hkl : k < bs.length := by omega
      obtain ⟨b, off, rfl, rfl, hcell⟩ := hr.byte hkl
      obtain ⟨B, hB⟩ : ∃ B : Nat, B = bs[k].toNat := ⟨_, rfl⟩
      have hBl : B < 256 := by rw [hB]; exact UInt8.toNat_lt _
      rw [← hB] at hcell
      have e1 := or_high V B k hV hBl (by omega)
      obtain ⟨U, hU⟩ : ∃ U : Nat, U = V + B * 256 ^ k := ⟨_, rfl⟩
      have hUl : U < 256 ^ (k + 1) := by
        have : B * 256 ^ k + 256 ^ k ≤ 256 ^ (k + 1) := by rw [Nat.pow_succ, Nat.mul_comm (256 ^ k) 256, ← Nat.succ_mul]; exact Nat.mul_le_mul_right _ hBl
        omega
      rw [← hU] at e1
      have HU : Hid (U = leN (bs.take (k + 1))) := Lib.hid (by rw [leN_take bs k hkl, ← hVr.out, ← hB, hU])
      clear hB hU hV
      go_wp2
      refine ⟨⟨⟨k + 1, U, by omega, by simp, by simp, hUl, HU⟩, trivial⟩, by simp [intOf]; omega⟩
    · obtain rfl : k = N := by omega
      clear hV
      obtain rfl : V = leN xs := by rw [hVr.out, HT.out]
      have e1 : bs.length - (k : Int).toNat = ys.length := by have := HL.out; omega
      have e2 : List.drop ((k : Int).toNat * 1) (bs.map bv) = ys.map bv := by rw [Nat.mul_one, ← List.map_drop, show (k : Int).toNat = k by omega, HDR.out]
      have h3 := HRD.out
      rw [e2, e1] at h3
      rw [e1] at hsl
      have H3 := Lib.hid h3
      clear HRD e1 e2 h3
      go_wp2
      go_ret
      have K1 : Kept (· = c) wr (wr.setCell ⟨c, 1, none⟩ (.slice a2 ys.length c2')) := Kept.setCell _ _ _ rfl
      exact ⟨rfl, _, heap_setCell_same (o := 1) HC.out _, H3.out.kept K1 (fun k hk => hg k hk), K1⟩

end Go.Proofs.YtanmfldgillodaaGreat
