/- The contract of the engine's Name. -/
import Derived.Test.YtfikkjdffmchfaaName
set_option linter.unusedSimpArgs false
set_option linter.unusedVariables false
namespace Go.Proofs.Ytfikkjdffmchfaa
open Go.RowKit

/-- Its words are words. -/
def Trio.ok (t : Trio) : Prop := (0 ≤ t.x ∧ t.x < 4294967296) ∧ (0 ≤ t.y ∧ t.y < 4294967296) ∧ 0 ≤ t.z ∧ t.z < 4294967296

theorem bits_u32 (o : BinOp) (a b : Int) (h : o = .xor) : 0 ≤ bits o IntKind.u32 a b ∧ bits o IntKind.u32 a b < 4294967296 := by
  subst h
  simp only [bits, IntKind.wrap_u32]
  omega

theorem mixT_ok (t : Trio) : (mixT t).ok := ⟨bits_u32 _ _ _ rfl, bits_u32 _ _ _ rfl, (bits_u32 _ _ _ rfl).1, (bits_u32 _ _ _ rfl).2⟩

/-- The first k words added. -/
def addK (k : Nat) (t : Trio) (a b c : Int) : Trio := ⟨if 1 ≤ k then (t.x + a) % 4294967296 else t.x, if 2 ≤ k then (t.y + b) % 4294967296 else t.y, if 3 ≤ k then (t.z + c) % 4294967296 else t.z⟩


def NameRelE (N r : Int) (b : Nat) (T : TypeId) (v : Value) (w : World) : Prop := ∃ (s : ByteArray) (t : Trio), v = .string s ∧ s.size ≤ 140737488351232 ∧ w.heap[b]? = some (.cells t.cells T) ∧ Hid t.ok ∧ Hid (nameFrom N t s.data.toList = r)

set_option maxRecDepth 100000 in
set_option maxHeartbeats 2000000 in
theorem name_c (g : Addr) (s : ByteArray) (w : World) (hs : s.size ≤ 140737488351232) :
    Calls Try.prog 17 #[.pointer (some g), .string s] w fun e w' => e = .returned (.int .u32 (nameN s.data.toList)) ∧ Kept (fun _ => False) w w' := by
  go_enter Try.func17, Try.ntmps17
  go_wp2
  obtain ⟨N, hN⟩ : ∃ N : Int, N = (s.size : Int) % 4294967296 := ⟨_, rfl⟩
  rw [← hN]
  have HN := Lib.hid hN
  clear hN
  have HS := Lib.hid hs
  clear hs
  have hx : (w.alloc (Obj.cells trio0.cells 71)).heap[w.heap.size]? = some (Obj.cells trio0.cells 71) := heap_alloc_new' _ _
  have K0 := Kept.alloc (fun _ => False) w (Obj.cells trio0.cells 71)
  go_loopw [1] (fun v w' => NameRelE N (nameN s.data.toList) w.heap.size 71 v w' ∧ Kept (fun _ => False) w w') (fun v _ => strLen v)
  case atStart => exact ⟨⟨s, trio0, rfl, HS.out, hx, Lib.hid (by unfold Trio.ok trio0; decide), Lib.hid (by unfold nameN; rw [toList_len, HN.out])⟩, K0⟩
  case round =>
    obtain ⟨⟨s1, t, rfl, hs1, hh, hok, hr⟩, hkr⟩ := hrel
    have HH := Lib.hid hh
    clear hh
    by_cases h12 : 12 ≤ s1.size
    · have i4 : (4 : Int) ≤ (s1.size : Int) := by omega
      have i8 : (8 : Int) ≤ (s1.size : Int) := by omega
      have i12 : (12 : Int) ≤ (s1.size : Int) := by omega
      go_wp2
      go_loopw [19] (fun i w' => (∃ k : Nat, k ≤ 3 ∧ i = .int .i64 k ∧ w'.heap[w.heap.size]? = some (.cells (addK k t (lew (s1.data.toList.take 4)) (lew ((s1.data.toList.drop 4).take 4)) (lew ((s1.data.toList.drop 8).take 4))).cells 71)) ∧ Kept (fun _ => False) w w') (fun i _ => 3 - (intOf i).toNat)
      case atStart => exact ⟨⟨0, by omega, rfl, HH.out⟩, hkr⟩
      case round =>
        obtain ⟨⟨k, hk, rfl, hh⟩, hkr⟩ := hrel
        clear HH
        have w0 : IntKind.i64.wrap 0 = 0 := by decide
        have w4 : IntKind.i64.wrap 4 = 4 := by decide
        have w8 : IntKind.i64.wrap 8 = 8 := by decide
        have w12 : IntKind.i64.wrap 12 = 12 := by decide
        obtain rfl | rfl | rfl | rfl : k = 0 ∨ k = 1 ∨ k = 2 ∨ k = 3 := by omega
        · have z0 : wr.cell? ⟨w.heap.size, 0, none⟩ = some (.int .u32 t.x) := cell_in hh
          have f0 : wr.frozen? ⟨w.heap.size, 0, none⟩ = false := frozen_in hh
          have hl := lt_in hh
          have HH := Lib.hid hh
          clear hh
          have e1 : (s1.extract 0 4).size ≤ 140737488351232 := by simp; omega
          go_wp2
          refine wp_region_ord [0, 1, 2, 3, 4, 5, 6, 7, 8, 9, 10, 11, 12] [] [13] (by kernel_rfl) (by kernel_rfl) (fun _ _ d _ _ h => by cases d <;> exact h) ?_
          simp only [sel, List.filterMap_cons, List.filterMap_nil, List.getElem?_cons_zero, List.getElem?_cons_succ]
          repeat (quiet_step (fail))
          quiet_step (first | (go_at_call 21; exact Calls.quiet_of_same (word_c _ _ e1)))
          repeat (quiet_step (fail))
          refine wpQuiet_nil ?_
          refine wpIdle_nil ?_
          rintro _ ⟨nr, rfl⟩
          go_wp2
          go_roundw
          case rel =>
            refine ⟨⟨1, by omega, rfl, ?_⟩, ?_⟩
            · refine (heap_setCell_same (w := wr.drewN nr) (o := 0) HH.out _).trans ?_
              simp [addK, Trio.cells, List.take_take]
            · refine Kept.st ?_ _ (.inr (by simp))
              exact hkr.dN nr
          case measure => simp [intOf]
        · have z0 : wr.cell? ⟨w.heap.size, 1, none⟩ = some (.int .u32 t.y) := cell_in hh
          have f0 : wr.frozen? ⟨w.heap.size, 1, none⟩ = false := frozen_in hh
          have hl := lt_in hh
          have HH := Lib.hid hh
          clear hh
          have e1 : (s1.extract 4 8).size ≤ 140737488351232 := by simp; omega
          go_wp2
          refine wp_region_ord [0, 1, 2, 3, 4, 5, 6, 7, 8, 9, 10, 11, 12] [] [13] (by kernel_rfl) (by kernel_rfl) (fun _ _ d _ _ h => by cases d <;> exact h) ?_
          simp only [sel, List.filterMap_cons, List.filterMap_nil, List.getElem?_cons_zero, List.getElem?_cons_succ]
          repeat (quiet_step (fail))
          quiet_step (first | (go_at_call 21; exact Calls.quiet_of_same (word_c _ _ e1)))
          repeat (quiet_step (fail))
          refine wpQuiet_nil ?_
          refine wpIdle_nil ?_
          rintro _ ⟨nr, rfl⟩
          go_wp2
          go_roundw
          case rel =>
            refine ⟨⟨2, by omega, rfl, ?_⟩, ?_⟩
            · refine (heap_setCell_same (w := wr.drewN nr) (o := 1) HH.out _).trans ?_
              simp [addK, Trio.cells, List.take_take]
            · refine Kept.st ?_ _ (.inr (by simp))
              exact hkr.dN nr
          case measure => simp [intOf]
        · have z0 : wr.cell? ⟨w.heap.size, 2, none⟩ = some (.int .u32 t.z) := cell_in hh
          have f0 : wr.frozen? ⟨w.heap.size, 2, none⟩ = false := frozen_in hh
          have hl := lt_in hh
          have HH := Lib.hid hh
          clear hh
          have e1 : (s1.extract 8 12).size ≤ 140737488351232 := by simp; omega
          go_wp2
          refine wp_region_ord [0, 1, 2, 3, 4, 5, 6, 7, 8, 9, 10, 11, 12] [] [13] (by kernel_rfl) (by kernel_rfl) (fun _ _ d _ _ h => by cases d <;> exact h) ?_
          simp only [sel, List.filterMap_cons, List.filterMap_nil, List.getElem?_cons_zero, List.getElem?_cons_succ]
          repeat (quiet_step (fail))
          quiet_step (first | (go_at_call 21; exact Calls.quiet_of_same (word_c _ _ e1)))
          repeat (quiet_step (fail))
          refine wpQuiet_nil ?_
          refine wpIdle_nil ?_
          rintro _ ⟨nr, rfl⟩
          go_wp2
          go_roundw
          case rel =>
            refine ⟨⟨3, by omega, rfl, ?_⟩, ?_⟩
            · refine (heap_setCell_same (w := wr.drewN nr) (o := 2) HH.out _).trans ?_
              simp [addK, Trio.cells, List.take_take]
            · refine Kept.st ?_ _ (.inr (by simp))
              exact hkr.dN nr
          case measure => simp [intOf]
        · have hadd : mixT (addK 3 t (lew (s1.data.toList.take 4)) (lew ((s1.data.toList.drop 4).take 4)) (lew ((s1.data.toList.drop 8).take 4))) = chunk t s1.data.toList := by simp [addK, addT, chunk]
          have HA := Lib.hid hadd
          clear hadd
          go_wp2_with fail
          refine (mix_c w.heap.size _ hh).mono ?_
          rintro e w3 ⟨rfl, hk3, hh3⟩
          rw [HA.out] at hh3
          have H3 := Lib.hid hh3
          clear hh3 hh
          go_wp2
          go_roundw
          case rel =>
            refine ⟨⟨_, chunk t s1.data.toList, rfl, ?_, H3.out, Lib.hid (mixT_ok _), Lib.hid ?_⟩, ?_⟩
            · simp; omega
            · rw [← hr.out, nameFrom_step (l := s1.data.toList) (by simpa using h12), ext_toList, List.take_of_length_le (by simp)]
            · exact hkr.thn hk3 (fun i hi => .inr (by omega))
          case measure => simp [strLen]; omega
    · have z2 : wr.cell? ⟨w.heap.size, 2, none⟩ = some (.int .u32 t.z) := cell_in HH.out
      have f2 : wr.frozen? ⟨w.heap.size, 2, none⟩ = false := frozen_in HH.out
      have hl := lt_in HH.out
      go_wp2
      have h1 := heap_setCell_same (o := 2) HH.out (.int .u32 ((t.z + N) % 4294967296))
      have K1 : Kept (fun _ => False) w (wr.setCell ⟨w.heap.size, 2, none⟩ (.int .u32 ((t.z + N) % 4294967296))) := Kept.st hkr _ (.inr (by simp))
      generalize wr.setCell ⟨w.heap.size, 2, none⟩ (.int .u32 ((t.z + N) % 4294967296)) = w1 at h1 K1 ⊢
      go_loopw [44] (fun i w' => (∃ k : Nat, k ≤ 3 ∧ i = .int .i64 k ∧ w'.heap[w.heap.size]? = some (.cells (addK k ⟨t.x, t.y, (t.z + N) % 4294967296⟩ (lew (s1.data.toList.take 4)) (lew ((s1.data.toList.drop 4).take 4)) ((lew (s1.data.toList.drop 8) : Int) * 256)).cells 71)) ∧ Kept (fun _ => False) w w') (fun i _ => 3 - (intOf i).toNat)
      case atStart => exact ⟨⟨0, by omega, rfl, h1⟩, K1⟩
      case round =>
        obtain ⟨⟨k, hk, rfl, hh⟩, hkr⟩ := hrel
        clear HH z2 f2 h1
        obtain rfl | rfl | rfl | rfl : k = 0 ∨ k = 1 ∨ k = 2 ∨ k = 3 := by omega
        · have z0 : wr.cell? ⟨w.heap.size, 0, none⟩ = some (.int .u32 t.x) := cell_in hh
          have f0 : wr.frozen? ⟨w.heap.size, 0, none⟩ = false := frozen_in hh
          have hl := lt_in hh
          have HH := Lib.hid hh
          clear hh
          by_cases hlen : 0 < s1.size
          · have e1 : (s1.extract 0 s1.size).size ≤ 140737488351232 := by simp; omega
            go_wp2_with fail
            refine (word_c _ _ hs1).mono ?_
            rintro e _ ⟨rfl, rfl⟩
            go_wp2
            go_roundw
            case rel =>
              refine ⟨⟨1, by omega, rfl, ?_⟩, ?_⟩
              · refine (heap_setCell_same (o := 0) HH.out _).trans ?_
                skip
                skip
                skip
                simp [addK, Trio.cells, List.take_take]
                
              · refine Kept.st ?_ _ (.inr (by simp))
                exact hkr
            case measure => simp [intOf]
          · have hz : s1.data.toList.drop 0 = [] := List.drop_of_length_le (by rw [toList_len]; omega)
            have HZ := Lib.hid hz
            clear hz
            go_wp2
            go_roundw
            case rel =>
              refine ⟨⟨1, by omega, rfl, HH.out.trans ?_⟩, hkr⟩
              obtain ⟨⟨o1, o2⟩, ⟨o3, o4⟩, o5, o6⟩ := hok.out
              have hz := HZ.out
              try simp only [List.drop_zero] at hz
              simp [addK, Trio.cells, hz, lew]
              omega
            case measure => simp [intOf]
        · have z0 : wr.cell? ⟨w.heap.size, 1, none⟩ = some (.int .u32 t.y) := cell_in hh
          have f0 : wr.frozen? ⟨w.heap.size, 1, none⟩ = false := frozen_in hh
          have hl := lt_in hh
          have HH := Lib.hid hh
          clear hh
          by_cases hlen : 4 < s1.size
          · have e1 : (s1.extract 4 s1.size).size ≤ 140737488351232 := by simp; omega
            go_wp2_with fail
            refine (word_c _ _ e1).mono ?_
            rintro e _ ⟨rfl, rfl⟩
            go_wp2
            go_roundw
            case rel =>
              refine ⟨⟨2, by omega, rfl, ?_⟩, ?_⟩
              · refine (heap_setCell_same (o := 1) HH.out _).trans ?_
                have e0 : (s1.data.toList.drop 4).take (s1.size - 4) = s1.data.toList.drop 4 := List.take_of_length_le (by rw [List.length_drop, toList_len]; omega)
                try simp only [e0]
                skip
                skip
                simp [addK, Trio.cells]
              · refine Kept.st ?_ _ (.inr (by simp))
                exact hkr
            case measure => simp [intOf]
          · have hz : s1.data.toList.drop 4 = [] := List.drop_of_length_le (by rw [toList_len]; omega)
            have HZ := Lib.hid hz
            clear hz
            go_wp2
            go_roundw
            case rel =>
              refine ⟨⟨2, by omega, rfl, HH.out.trans ?_⟩, hkr⟩
              obtain ⟨⟨o1, o2⟩, ⟨o3, o4⟩, o5, o6⟩ := hok.out
              have hz := HZ.out
              try simp only [List.drop_zero] at hz
              simp [addK, Trio.cells, hz, lew]
              omega
            case measure => simp [intOf]
        · have z0 : wr.cell? ⟨w.heap.size, 2, none⟩ = some (.int .u32 ((t.z + N) % 4294967296)) := cell_in hh
          have f0 : wr.frozen? ⟨w.heap.size, 2, none⟩ = false := frozen_in hh
          have hl := lt_in hh
          have HH := Lib.hid hh
          clear hh
          by_cases hlen : 8 < s1.size
          · have e1 : (s1.extract 8 s1.size).size ≤ 140737488351232 := by simp; omega
            go_wp2_with fail
            refine (word_c _ _ e1).mono ?_
            rintro e _ ⟨rfl, rfl⟩
            go_wp2
            go_roundw
            case rel =>
              refine ⟨⟨3, by omega, rfl, ?_⟩, ?_⟩
              · refine (heap_setCell_same (o := 2) HH.out _).trans ?_
                have e0 : (s1.data.toList.drop 8).take (s1.size - 8) = s1.data.toList.drop 8 := List.take_of_length_le (by rw [List.length_drop, toList_len]; omega)
                have e0' : (s1.data.toList.drop 8).take 4 = s1.data.toList.drop 8 := List.take_of_length_le (by rw [List.length_drop, toList_len]; omega)
                simp only [e0, e0']
                have e2 := lew_lt (s1.data.toList.drop 8)
                have e3 : (256 : Nat) ^ (s1.data.toList.drop 8).length ≤ 256 ^ 3 := Nat.pow_le_pow_right (by omega) (by rw [List.length_drop, toList_len]; omega)
                simp [addK, Trio.cells]
                skip
              · refine Kept.st ?_ _ (.inr (by simp))
                exact hkr
            case measure => simp [intOf]
          · have hz : s1.data.toList.drop 8 = [] := List.drop_of_length_le (by rw [toList_len]; omega)
            have HZ := Lib.hid hz
            clear hz
            go_wp2
            go_roundw
            case rel =>
              refine ⟨⟨3, by omega, rfl, HH.out.trans ?_⟩, hkr⟩
              obtain ⟨⟨o1, o2⟩, ⟨o3, o4⟩, o5, o6⟩ := hok.out
              have hz := HZ.out
              try simp only [List.drop_zero] at hz
              simp [addK, Trio.cells, hz, lew]
              try omega
            case measure => simp [intOf]
        · have hend := nameFrom_end (N := N) (t := t) (l := s1.data.toList) (by rw [toList_len]; omega)
          rw [hr.out] at hend
          have hadd : (mixT (addK 3 ⟨t.x, t.y, (t.z + N) % 4294967296⟩ (lew (s1.data.toList.take 4)) (lew ((s1.data.toList.drop 4).take 4)) ((lew (s1.data.toList.drop 8) : Int) * 256))).z = nameN s.data.toList := by
            rw [hend]
            simp [addK, endT]
          have HA := Lib.hid hadd
          clear hadd hend
          go_wp2_with fail
          refine (mix_c w.heap.size _ hh).mono ?_
          rintro e w3 ⟨rfl, hk3, hh3⟩
          have z3 : w3.cell? ⟨w.heap.size, 2, none⟩ = some (.int .u32 _) := cell_in hh3
          have hl3 := lt_in hh3
          rw [HA.out] at z3
          have H3 := Lib.hid hh3
          clear hh3 hh
          go_wp2
          go_ret
          exact ⟨rfl, hkr.thn hk3 (fun i hi => .inr (by omega))⟩

end Go.Proofs.Ytfikkjdffmchfaa
