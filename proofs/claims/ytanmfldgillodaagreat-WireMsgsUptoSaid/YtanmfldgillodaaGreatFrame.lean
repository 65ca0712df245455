/- The contract of the engine's Frame. -/
import Derived.Test.YtanmfldgillodaaGreatUnframe
set_option linter.unusedSimpArgs false
set_option linter.unusedVariables false
namespace Go.Proofs.YtanmfldgillodaaGreat
open Go.RowKit

/-- So many bytes of a number, the lowest first. -/
def leB : Nat → Nat → List UInt8
  | 0, _ => []
  | k + 1, n => UInt8.ofNat (n % 256) :: leB k (n / 256)

theorem leB_length (k n : Nat) : (leB k n).length = k := by
  induction k generalizing n with
  | zero => rfl
  | succ k ih => simp [leB, ih]

theorem leN_leB (k n : Nat) : leN (leB k n) = n % 256 ^ k := by
  induction k generalizing n with
  | zero => simp [leB, leN, Nat.mod_one]
  | succ k ih =>
    simp only [leB, leN, ih, UInt8.toNat_ofNat']
    rw [show (256 : Nat) ^ (k + 1) = 256 * 256 ^ k by rw [Nat.pow_succ, Nat.mul_comm], Nat.mod_mul]
    omega

theorem bv_ofNat (n : Nat) (h : n < 256) : bv (UInt8.ofNat n) = .int .u8 (n : Int) := by
  simp only [bv, UInt8.toNat_ofNat']
  congr 2
  omega

theorem leB4_cells (n : Nat) (hn : n < 4294967296) : (leB 4 n).map bv = [.int .u8 ((n : Int) % 256), .int .u8 ((n : Int) / 256 % 256), .int .u8 ((n : Int) / 65536 % 256), .int .u8 ((n : Int) / 16777216)] := by
  simp only [leB, List.map_cons, List.map_nil, bv_ofNat _ (Nat.mod_lt _ (by decide : 256 > 0)), Nat.div_div_eq_div_mul]
  simp
  omega

/-- A row that is new is owned. -/
theorem own_alloc (w : World) (l : List Value) (e : TypeId) (n : Nat) (h : l.length = n) (hn : n ≤ maxLen) : Own (w.alloc (.cells l.toArray e)) e 1 (.slice (some ⟨w.heap.size, 0, none⟩) n n) n l (some w.heap.size) :=
  ⟨by simpa using h, .inr ⟨w.heap.size, 0, n, l.toArray, rfl, rfl, Nat.le_refl _, hn, heap_alloc_new' w _, by simp [h], fun j hj => by simp⟩⟩

set_option maxHeartbeats 800000 in
theorem number_c {w : World} (n : Nat) (hn : n < 4294967296) :
    Calls Tryz.prog 95 #[.int .u32 n] w fun e w' => (∃ v, e = .returned v ∧ Own w' 5 1 v 4 ((leB 4 n).map bv) (some w.heap.size)) ∧ Kept (fun _ => False) w w' := by
  have ho := own_alloc w ((leB 4 n).map bv) 5 4 (by rw [List.length_map, leB_length]) (by decide)
  have hk := Kept.alloc (fun _ => False) w (.cells ((leB 4 n).map bv).toArray 5)
  rw [leB4_cells n hn] at ho hk ⊢
  have HO := Lib.hid ho
  have HK := Lib.hid hk
  clear ho hk
  go_enter Tryz.func95, Tryz.ntmps95
  go_wp2
  go_ret
  exact ⟨⟨_, rfl, HO.out⟩, HK.out⟩

/-- A frame. -/
def frameB (bs : List UInt8) : List UInt8 := leB 4 bs.length ++ leB 4 (crcN bs) ++ bs

set_option maxRecDepth 100000 in
set_option maxHeartbeats 1600000 in
theorem frame_c {w : World} {v : Value} {bs : List UInt8} {g : Option Nat} (hr : Reads w 1 v bs.length (bs.map bv) g) (hgl : ∀ k, g = some k → k < w.heap.size) (hm : bs.length ≤ 524288) :
    Calls Tryz.prog 37 #[v] w fun e w' => (∃ vc, e = .returned vc ∧ Fresh w w' vc (frameB bs)) ∧ Kept (fun _ => False) w w' := by
  obtain ⟨i0, hi, hz0, hz1, hz2⟩ := info_all u8info
  obtain ⟨a, cp, rfl, hc⟩ := hr.shape
  have h1i : ¬ (524288 : Int) < (bs.length : Int) := by omega
  have hmod : (bs.length : Int) % 4294967296 = (bs.length : Int) := by omega
  go_enter Tryz.func37, Tryz.ntmps37
  go_wp2_with fail
  refine (number_c bs.length (by omega)).mono ?_
  rintro e w1 ⟨⟨v1, rfl, o1⟩, k1⟩
  obtain ⟨a1, c1, rfl, -, -⟩ := o1.shape
  go_wp2_with fail
  refine new_c.mono ?_
  rintro e w2 ⟨rfl, E2, k2⟩
  have r2 := hr.kept (k1.trans k2) (fun _ _ h => h)
  go_wp2_with fail
  have hs1 := k1.size
  have hlt1 := o1.lt _ rfl
  refine (crc0_c E2 r2 (fun k hk => by have := hgl k hk; omega) (by omega)).mono ?_
  rintro e w3 ⟨rfl, k3⟩
  go_wp2_with fail
  refine (number_c (crcN bs) (crcN_lt bs)).mono ?_
  rintro e w4 ⟨⟨v4, rfl, o4⟩, k4⟩
  obtain ⟨a4, c4, rfl, -, -⟩ := o4.shape
  have k14 : Kept (· = w1.heap.size) w1 w4 := ((k2.mono (fun _ _ h => h.elim)).trans k3).trans (k4.mono (fun _ _ h => h.elim))
  have o1' := o1.kept k14 (fun k hk => by simp at hk; omega)
  have K4 : Kept (fun _ => False) w w4 := k1.thn k14 (fun i hi => .inr (by omega))
  have r4 := hr.kept K4 (fun _ _ h => h)
  go_wp2_with (first
    | (at_builtin; refine wpList_append_Own rfl _ _ 41 41 rfl 5 i0 (.int .u8 0) 1 1 Tryz.underlying41 hi hz0 hz1 hz2 rfl rfl o1' rfl (by exact Reads.src o4.reads Tryz.underlying41 (bv_one _)) (by unfold maxLen; omega) (by omega) ?_; intro a5 k5 w5 g5 hown5 hk5 hg5; have r5 := hr.kept (K4.thn hk5 (fun i hi => by simp at hi; omega)) (fun _ _ h => h))
    | (at_builtin; refine wpList_append_Own rfl _ _ 41 41 rfl 5 i0 (.int .u8 0) 1 1 Tryz.underlying41 hi hz0 hz1 hz2 rfl rfl hown5 rfl (by exact Reads.src r5 Tryz.underlying41 (bv_one _)) (by unfold maxLen; omega) (by omega) ?_; intro a6 k6 w6 g6 hown6 hk6 hg6))
  have K5 : Kept (fun _ => False) w w5 := K4.thn hk5 (fun i hi => by simp at hi; omega)
  have hg5' : ∀ k, g5 = some k → w.heap.size ≤ k := fun k hk => by
    rcases hg5 k hk with h | h
    · simp at h; omega
    · have := K4.size; omega
  have K6 : Kept (fun _ => False) w w6 := K5.thn hk6 (fun i hi => .inr (hg5' i hi))
  go_ret
  refine ⟨⟨_, rfl, g6, ?_, fun k hk => ?_⟩, K6⟩
  · have e : (frameB bs).length = 4 + 4 + bs.length := by simp [frameB, leB_length]; omega
    rw [e, frameB, List.map_append, List.map_append]
    exact hown6
  · rcases hg6 k hk with h | h
    · exact hg5' k h
    · have := K5.size; omega

set_option maxRecDepth 100000 in
theorem frame_big_c {w : World} {v : Value} {bs : List UInt8} {g : Option Nat} (hr : Reads w 1 v bs.length (bs.map bv) g) (hm : 524288 < bs.length) :
    Calls Tryz.prog 37 #[v] w fun e w' => e = .returned (.slice none 0 0) ∧ w' = w := by
  obtain ⟨a, cp, rfl, hc⟩ := hr.shape
  have h1i : (524288 : Int) < (bs.length : Int) := by omega
  go_enter Tryz.func37, Tryz.ntmps37
  go_wp2
  go_ret
  exact ⟨rfl, rfl⟩

end Go.Proofs.YtanmfldgillodaaGreat
