/- Pg where there is no such pool; the examples of the chapter; the walk of the law PlaceMods. -/
import Derived.Test.YtfikkjdffmchfaaPool
import Derived.Test.YtfikkjdffmchfaaGood
import Derived.Test.YtfikkjdffmchfaaStable
import Derived.Test.YtfikkjdffmchfaaOpen
set_option linter.unusedSimpArgs false
set_option linter.unusedVariables false
namespace Go.Proofs.Ytfikkjdffmchfaa
open Go.RowKit Go.ChangeShapes Go.WideShapes Go.ChangeAt

set_option maxRecDepth 100000 in
set_option maxHeartbeats 1000000 in
theorem pg_none {w : World} {vp : Value} {pl : List PoolT} {g : Option Nat} (hr : Reads w 4 vp pl.length (pl.flatMap PoolT.cells) g) (hm : pl.length ≤ 140737488351232) (ep lf : Int) (vo vb : Value) (ao : Option Addr) (no co : Nat) (ho : vo = .slice ao no co) (ab : Option Addr) (nb cb : Nat) (hb : vb = .slice ab nb cb) (id : Int) (s : ByteArray)
    (hf : (pl.find? (fun q => q.id == id)) = none) :
    Calls Try.prog 6 #[.agg #[.int .i64 ep, vo, vp, vb, .int .i64 lf], .int .i64 id, .string s] w fun e w' => e = .returned (.tuple #[.agg #[.int .i64 0, .int .i64 0], .int .i64 2]) ∧ Kept (fun _ => False) w w' := by
  subst ho hb
  obtain ⟨ap, cp, rfl, hc⟩ := hr.shape
  go_enter Try.func6, Try.ntmps6
  go_wp2_with fail
  obtain ⟨K0, x1, x2⟩ := two_new w (Obj.cells #[Value.int IntKind.i64 ep, Value.slice ao no co, Value.slice ap pl.length cp, Value.slice ab nb cb, Value.int IntKind.i64 lf] 26) (Obj.cells #[Value.int IntKind.i64 0, Value.int IntKind.i64 0] 28)
  generalize (w.alloc (Obj.cells #[Value.int IntKind.i64 ep, Value.slice ao no co, Value.slice ap pl.length cp, Value.slice ab nb cb, Value.int IntKind.i64 lf] 26)).alloc (Obj.cells #[Value.int IntKind.i64 0, Value.int IntKind.i64 0] 28) = w0 at K0 x1 x2 ⊢
  refine (pool_c (hr.kept K0 (fun _ _ h => h)) hm _ _ _ _ _ _ _ rfl _ _ _ rfl id PoolT.zero false (by simpa using hf) (fun _ => rfl)).mono ?_
  rintro e w1 ⟨rfl, hk1⟩
  have x3 : w1.heap[w.heap.size + 1]? = _ := (hk1.block _ (lt_in x2) (fun h => h)).trans x2
  have z0 : w1.cell? ⟨w.heap.size + 1, 0, none⟩ = some (.int .i64 0) := cell_in x3
  have z1 : w1.cell? ⟨w.heap.size + 1, 1, none⟩ = some (.int .i64 0) := cell_in x3
  have f0 : w1.frozen? ⟨w.heap.size + 1, 0, none⟩ = false := frozen_in x3
  have f1 : w1.frozen? ⟨w.heap.size + 1, 1, none⟩ = false := frozen_in x3
  have hlt := lt_in x3
  have K1 := K0.trans hk1
  have X3 := Lib.hid x3
  clear x1 x2 x3
  simp only [PoolT.val, PoolT.zero]
  go_wp2_with fail
  have h3 := heap_setCell_same (o := 1) (heap_setCell_same (o := 0) X3.out (.int .i64 0)) (.int .i64 0)
  have h4 : (((w1.setCell ⟨w.heap.size + 1, 0, none⟩ (.int .i64 0)).setCell ⟨w.heap.size + 1, 1, none⟩ (.int .i64 0)).alloc (Obj.cells #[Value.int IntKind.i64 0, Value.int IntKind.i64 0, Value.int IntKind.i64 0, Value.int IntKind.i64 0] 35)).heap[w.heap.size + 1]? = _ := (Below.heap_alloc _ _ _ (lt_in h3)).trans h3
  have K4 : Kept (fun _ => False) w (((w1.setCell ⟨w.heap.size + 1, 0, none⟩ (.int .i64 0)).setCell ⟨w.heap.size + 1, 1, none⟩ (.int .i64 0)).alloc (Obj.cells #[Value.int IntKind.i64 0, Value.int IntKind.i64 0, Value.int IntKind.i64 0, Value.int IntKind.i64 0] 35)) := ((K1.st _ (.inr (by simp))).st _ (.inr (by simp))).al _
  generalize ((w1.setCell ⟨w.heap.size + 1, 0, none⟩ (.int .i64 0)).setCell ⟨w.heap.size + 1, 1, none⟩ (.int .i64 0)).alloc (Obj.cells #[Value.int IntKind.i64 0, Value.int IntKind.i64 0, Value.int IntKind.i64 0, Value.int IntKind.i64 0] 35) = w4 at h4 K4 ⊢
  have e0 : w4.cell? ⟨w.heap.size + 1, 0, none⟩ = some (.int .i64 0) := cell_in h4
  have e1 : w4.cell? ⟨w.heap.size + 1, 1, none⟩ = some (.int .i64 0) := cell_in h4
  exact bodyPost_ret (v := .tuple #[.agg #[.int .i64 0, .int .i64 0], .int .i64 2]) (by simp [results, Try.results6, go_sem, e0, e1]) rfl ⟨rfl, K4⟩

theorem goodA : goodB (⟨#[97]⟩ : ByteArray).data.toList = true := by decide

theorem smod76 : smod 7 (6 : Int).toNat = 3 := by decide
theorem smod56 : smod 5 (6 : Int).toNat = 5 := by decide
theorem smod91 : smod 9 (1 : Int).toNat = 0 := by decide

set_option maxRecDepth 100000 in
set_option maxHeartbeats 1000000 in
theorem lives09_c {w : World} : Calls Try.prog 12 #[] w fun e w' => e = .returned (.bool true) ∧ Kept (fun _ => False) w w' := by
  have hr : Reads w 4 (.slice none 0 0) ([] : List PoolT).length (([] : List PoolT).flatMap PoolT.cells) none := ⟨by simp, .inl ⟨_, _, rfl, rfl⟩⟩
  have s1 := stable_c (w := w) 7 6 (by omega) (by omega) (by omega)
  go_enter Try.func12, Try.ntmps12
  go_wp2_with fail
  refine (pg_none hr (by simp) 0 0 _ _ _ _ _ rfl _ _ _ rfl 1 _ (by simp)).mono ?_
  rintro e w1 ⟨rfl, hk1⟩
  clear s1
  go_wp2_with fail
  refine (stable_c 7 6 (by omega) (by omega) (by omega)).mono ?_
  rintro e _ ⟨rfl, rfl⟩
  rw [smod76]
  go_wp2_with fail
  refine (stable_c 5 6 (by omega) (by omega) (by omega)).mono ?_
  rintro e _ ⟨rfl, rfl⟩
  rw [smod56]
  go_wp2_with fail
  refine (stable_c 9 1 (by omega) (by omega) (by omega)).mono ?_
  rintro e _ ⟨rfl, rfl⟩
  rw [smod91]
  go_wp2_with fail
  refine (good_c _ _ (by decide) true goodA).mono ?_
  rintro e _ ⟨rfl, rfl⟩
  go_wp2_with fail
  go_ret
  exact ⟨rfl, hk1.al _⟩

set_option maxRecDepth 100000 in
set_option maxHeartbeats 1000000 in
theorem mods_core {W : World} (x : Nat) (n : Int) (hx : x < 4294967296) (hn : -9223372036854775808 ≤ n) (hn2 : n ≤ 9223372036854775807) :
    Calls Try.prog 4 #[.int .u32 x, .int .i64 n] W fun e w' => e = .returned (.bool true) ∧ Kept (fun _ => False) W w' := by
  obtain ⟨a, ha⟩ : ∃ a, a = smod x n.toNat := ⟨_, rfl⟩
  have u1 : ((a : Int) != (a : Int)) = false := by simp
  by_cases h1 : n < 1 ∨ 1073741824 ≤ n
  · have q : (n < 1) ∨ (¬ n < 1 ∧ 1073741824 ≤ n) := by omega
    rcases q with h | ⟨h, h'⟩
    · have q1 : decide (n < 1) = true := by simpa using h
      go_enter Try.func4, Try.ntmps4
      go_wp2_with fail
      refine (stable_c x n hx hn hn2).mono ?_
      rintro e _ ⟨rfl, rfl⟩
      rw [← ha]
      go_wp2_with fail
      refine (stableRef_c x n hx hn hn2).mono ?_
      rintro e _ ⟨rfl, rfl⟩
      rw [← ha]
      go_wp2_with fail
      refine lives09_c.mono ?_
      rintro e w9 ⟨rfl, hk9⟩
      go_wp2_with fail
      go_ret
      exact ⟨rfl, hk9⟩
    · have q1 : decide (n < 1) = false := by simpa using h
      have q2 : decide (1073741824 ≤ n) = true := by simpa using h'
      go_enter Try.func4, Try.ntmps4
      go_wp2_with fail
      refine (stable_c x n hx hn hn2).mono ?_
      rintro e _ ⟨rfl, rfl⟩
      rw [← ha]
      go_wp2_with fail
      refine (stableRef_c x n hx hn hn2).mono ?_
      rintro e _ ⟨rfl, rfl⟩
      rw [← ha]
      go_wp2_with fail
      refine lives09_c.mono ?_
      rintro e w9 ⟨rfl, hk9⟩
      go_wp2_with fail
      go_ret
      exact ⟨rfl, hk9⟩
  · have q1 : decide (n < 1) = false := by simp; omega
    have q2 : decide (1073741824 ≤ n) = false := by simp; omega
    obtain ⟨b, hb⟩ : ∃ b, b = smod x (n + 1).toNat := ⟨_, rfl⟩
    have hlt : a < n.toNat := by rw [ha]; exact smod_lt (by omega)
    have hstep : b = a ∨ b = n.toNat := by
      rw [hb, ha, show (n + 1).toNat = n.toNat + 1 by omega]; exact smod_step (by omega) (by omega)
    have r1 : decide ((0 : Int) ≤ (a : Int)) = true := by simp
    have r2 : decide ((a : Int) < n) = true := by simp; omega
    by_cases hba : b = a
    · have r3 : ((b : Int) == (a : Int)) = true := by simp [hba]
      clear hstep hba
      have HA := Lib.hid ha
      have HB := Lib.hid hb
      clear ha hb
      go_enter Try.func4, Try.ntmps4
      go_wp2_with fail
      refine (stable_c x n hx hn hn2).mono ?_
      rintro e _ ⟨rfl, rfl⟩
      rw [← HA.out]
      go_wp2_with fail
      refine (stableRef_c x n hx hn hn2).mono ?_
      rintro e _ ⟨rfl, rfl⟩
      rw [← HA.out]
      go_wp2_with fail
      refine (stable_c x (n + 1) hx (by omega) (by omega)).mono ?_
      rintro e _ ⟨rfl, rfl⟩
      rw [← HB.out]
      go_wp2_with fail
      refine lives09_c.mono ?_
      rintro e w9 ⟨rfl, hk9⟩
      go_wp2_with fail
      go_ret
      exact ⟨rfl, hk9⟩
    · have r3 : ((b : Int) == (a : Int)) = false := beq_eq_false_iff_ne.2 (by omega)
      have r4 : ((b : Int) == n) = true := beq_iff_eq.2 (by omega)
      clear hstep hba
      have HA := Lib.hid ha
      have HB := Lib.hid hb
      clear ha hb
      go_enter Try.func4, Try.ntmps4
      go_wp2_with fail
      refine (stable_c x n hx hn hn2).mono ?_
      rintro e _ ⟨rfl, rfl⟩
      rw [← HA.out]
      go_wp2_with fail
      refine (stableRef_c x n hx hn hn2).mono ?_
      rintro e _ ⟨rfl, rfl⟩
      rw [← HA.out]
      go_wp2_with fail
      refine (stable_c x (n + 1) hx (by omega) (by omega)).mono ?_
      rintro e _ ⟨rfl, rfl⟩
      rw [← HB.out]
      go_wp2_with fail
      refine lives09_c.mono ?_
      rintro e w9 ⟨rfl, hk9⟩
      go_wp2_with fail
      go_ret
      exact ⟨rfl, hk9⟩

end Go.Proofs.Ytfikkjdffmchfaa
