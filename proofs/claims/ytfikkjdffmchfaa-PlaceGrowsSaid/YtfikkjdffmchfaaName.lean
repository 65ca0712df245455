/- Contracts of cut and of both Names. -/
import Derived.Test.YtfikkjdffmchfaaWord
import Derived.Test.YtfikkjdffmchfaaMix
set_option linter.unusedSimpArgs false
set_option linter.unusedVariables false
namespace Go.Proofs.Ytfikkjdffmchfaa
open Go.RowKit

theorem ext_toList (s : ByteArray) (i j : Nat) : (s.extract i j).data.toList = (s.data.toList.drop i).take (j - i) := by
  rw [ByteArray.data_extract, Array.toList_extract, List.extract_eq_take_drop]

set_option maxHeartbeats 800000 in
theorem cut_c (s : ByteArray) (w : World) (hs : s.size ≤ 140737488351232) :
    Calls Try.prog 25 #[.string s, .int .i64 4] w fun e w' => (∃ a b : ByteArray, e = .returned (.tuple #[.string a, .string b]) ∧ a.data.toList = s.data.toList.take 4 ∧ b.data.toList = s.data.toList.drop 4) ∧ ∃ n, w' = w.drewN n := by
  by_cases h : s.size < 4
  · go_enter Try.func25, Try.ntmps25
    go_wp2
    go_quiet (fail)
    go_wp2
    go_ret2
    refine ⟨⟨_, _, rfl, ?_, ?_⟩, _, rfl⟩
    · rw [List.take_of_length_le (by simp; omega)]
    · rw [List.drop_of_length_le (by simp; omega)]; rfl
  · go_enter Try.func25, Try.ntmps25
    go_wp2
    go_quiet (fail)
    go_wp2
    go_ret2
    refine ⟨⟨_, _, rfl, ?_, ?_⟩, _, rfl⟩
    · rw [ext_toList]; rfl
    · rw [ext_toList, List.take_of_length_le (by simp)]

/-- Words added. -/
def addT (t : Trio) (a b c : Int) : Trio := ⟨(t.x + a) % 4294967296, (t.y + b) % 4294967296, (t.z + c) % 4294967296⟩

/-- One chunk of twelve bytes. -/
def chunk (t : Trio) (l : List UInt8) : Trio := mixT (addT t (lew (l.take 4)) (lew ((l.drop 4).take 4)) (lew ((l.drop 8).take 4)))

/-- The end. -/
def endT (N : Int) (t : Trio) (l : List UInt8) : Int := (mixT ⟨(t.x + lew (l.take 4)) % 4294967296, (t.y + lew ((l.drop 4).take 4)) % 4294967296, ((t.z + N) % 4294967296 + (lew (l.drop 8) * 256 : Nat)) % 4294967296⟩).z

/-- The name's number from a state on. -/
def nameFrom (N : Int) (t : Trio) (l : List UInt8) : Int :=
  if h : 12 ≤ l.length then nameFrom N (chunk t l) (l.drop 12) else endT N t l
termination_by l.length
decreasing_by simp; omega

def trio0 : Trio := ⟨2654435769, 2654435769, 0⟩
def nameN (l : List UInt8) : Int := nameFrom ((l.length : Int) % 4294967296) trio0 l

theorem nameFrom_step {N : Int} {t : Trio} {l : List UInt8} (h : 12 ≤ l.length) : nameFrom N t l = nameFrom N (chunk t l) (l.drop 12) := by
  rw [nameFrom, dif_pos h]
theorem nameFrom_end {N : Int} {t : Trio} {l : List UInt8} (h : ¬ 12 ≤ l.length) : nameFrom N t l = endT N t l := by
  rw [nameFrom, dif_neg h]

theorem toList_len (s : ByteArray) : s.data.toList.length = s.size := by simp

def NameRel (N r : Int) (b : Nat) (T : TypeId) (v : Value) (w : World) : Prop := ∃ (s : ByteArray) (t : Trio), v = .string s ∧ s.size ≤ 140737488351232 ∧ w.heap[b]? = some (.cells t.cells T) ∧ Hid (nameFrom N t s.data.toList = r)

def strLen : Value → Nat
  | .string s => s.size
  | _ => 0

set_option maxRecDepth 100000 in
set_option maxHeartbeats 2000000 in
theorem nameRef_c (s : ByteArray) (w : World) (hs : s.size ≤ 140737488351232) :
    Calls Try.prog 18 #[.string s] w fun e w' => e = .returned (.int .u32 (nameN s.data.toList)) ∧ Kept (fun _ => False) w w' := by
  go_enter Try.func18, Try.ntmps18
  go_wp2
  obtain ⟨N, hN⟩ : ∃ N : Int, N = (s.size : Int) % 4294967296 := ⟨_, rfl⟩
  rw [← hN]
  have HN := Lib.hid hN
  clear hN
  have HS := Lib.hid hs
  clear hs
  have hx : (w.alloc (Obj.cells trio0.cells 73)).heap[w.heap.size]? = some (Obj.cells trio0.cells 73) := heap_alloc_new' _ _
  have K0 := Kept.alloc (fun _ => False) w (Obj.cells trio0.cells 73)
  go_loopw [0] (fun v w' => NameRel N (nameN s.data.toList) w.heap.size 73 v w' ∧ Kept (fun _ => False) w w') (fun v _ => strLen v)
  case atStart => exact ⟨⟨s, trio0, rfl, HS.out, hx, Lib.hid (by unfold nameN; rw [toList_len, HN.out])⟩, K0⟩
  case round =>
    obtain ⟨⟨s1, t, rfl, hs1, hh, hr⟩, hkr⟩ := hrel
    have z0 : wr.cell? ⟨w.heap.size, 0, none⟩ = some (.int .u32 t.x) := cell_in hh
    have z1 : wr.cell? ⟨w.heap.size, 1, none⟩ = some (.int .u32 t.y) := cell_in hh
    have z2 : wr.cell? ⟨w.heap.size, 2, none⟩ = some (.int .u32 t.z) := cell_in hh
    have HH := Lib.hid hh
    clear hh
    by_cases h12 : 12 ≤ s1.size
    · have i4 : (4 : Int) ≤ (s1.size : Int) := by omega
      have i8 : (8 : Int) ≤ (s1.size : Int) := by omega
      have i12 : (12 : Int) ≤ (s1.size : Int) := by omega
      have e1 : (s1.extract 0 4).size ≤ 4 := by simp; omega
      have e2 : (s1.extract 4 8).size ≤ 4 := by simp; omega
      have e3 : (s1.extract 8 12).size ≤ 4 := by simp; omega
      go_wp2
      refine wp_region_ord [0, 1, 2, 3, 4, 5, 6, 7, 8, 9, 10, 11, 12, 13, 14, 15, 16, 17, 18] [] [19, 20] (by kernel_rfl) (by kernel_rfl) (fun _ _ d _ _ h => by cases d <;> exact h) ?_
      simp only [sel, List.filterMap_cons, List.filterMap_nil, List.getElem?_cons_zero, List.getElem?_cons_succ]
      repeat (quiet_step (first | (go_at_call 24; exact Calls.quiet_of_same (four_c _ _ (by assumption)))))
      refine wpQuiet_nil ?_
      refine wpIdle_nil ?_
      rintro _ ⟨nr, rfl⟩
      clear z0 z1 z2
      go_wp2_with fail
      refine (mixRef_c (addT t (lew (s1.data.toList.take 4)) (lew ((s1.data.toList.drop 4).take 4)) (lew ((s1.data.toList.drop 8).take 4)))).mono ?_
      rintro e w1 ⟨rfl, hk1⟩
      have hh1 : w1.heap[w.heap.size]? = _ := (hk1.block _ (lt_in HH.out) (fun h => h)).trans HH.out
      obtain ⟨u, hu⟩ : ∃ u, u = chunk t s1.data.toList := ⟨_, rfl⟩
      unfold chunk at hu
      rw [← hu]
      have HU := Lib.hid hu
      clear hu
      have z0 : w1.cell? ⟨w.heap.size, 0, none⟩ = some (.int .u32 t.x) := cell_in hh1
      have z1 : w1.cell? ⟨w.heap.size, 1, none⟩ = some (.int .u32 t.y) := cell_in hh1
      have z2 : w1.cell? ⟨w.heap.size, 2, none⟩ = some (.int .u32 t.z) := cell_in hh1
      have f0 : w1.frozen? ⟨w.heap.size, 0, none⟩ = false := frozen_in hh1
      have f1 : w1.frozen? ⟨w.heap.size, 1, none⟩ = false := frozen_in hh1
      have f2 : w1.frozen? ⟨w.heap.size, 2, none⟩ = false := frozen_in hh1
      have hl := lt_in hh1
      have H1 := Lib.hid hh1
      clear hh1
      simp only [Trio.cells]
      have K1 : Kept (fun _ => False) w w1 := (hkr.dN nr).trans hk1
      go_wp2
      go_roundw
      case rel =>
        refine ⟨⟨_, u, rfl, ?_, heap_setCell_same (o := 2) (heap_setCell_same (o := 1) (heap_setCell_same (o := 0) H1.out (.int .u32 u.x)) (.int .u32 u.y)) (.int .u32 u.z), Lib.hid ?_⟩, ?_⟩
        · simp; omega
        · rw [← hr.out, nameFrom_step (l := s1.data.toList) (by simpa using h12)]
          unfold chunk
          rw [← HU.out, ext_toList, List.take_of_length_le (by simp)]
        · refine Kept.st ?_ _ (.inr (by simp))
          refine Kept.st ?_ _ (.inr (by simp))
          refine Kept.st ?_ _ (.inr (by simp))
          exact K1
      case measure => simp [strLen]; omega
    · go_wp2_with fail
      refine (cut_c _ _ hs1).mono ?_
      rintro e _ ⟨⟨a1, b1, rfl, ha1, hb1⟩, n1, rfl⟩
      have l1 := congrArg List.length ha1
      have l2 := congrArg List.length hb1
      simp at l1 l2
      go_wp2_with fail
      refine (cut_c _ _ (by omega)).mono ?_
      rintro e _ ⟨⟨a2, b2, rfl, ha2, hb2⟩, n2, rfl⟩
      have l3 := congrArg List.length ha2
      have l4 := congrArg List.length hb2
      simp at l3 l4
      have s1' : a1.size ≤ 4 := by omega
      have s2' : a2.size ≤ 4 := by omega
      have s3' : b2.size ≤ 3 := by omega
      clear l1 l2 l3 l4
      go_wp2_with fail
      have hh2 : (wr.drewN (n1 + n2)).heap[w.heap.size]? = _ := HH.out
      have K2 : Kept (fun _ => False) w (wr.drewN (n1 + n2)) := hkr.dN _
      clear z0 z1 z2
      generalize wr.drewN (n1 + n2) = w2 at hh2 K2 ⊢
      have z0 : w2.cell? ⟨w.heap.size, 0, none⟩ = some (.int .u32 t.x) := cell_in hh2
      have z1 : w2.cell? ⟨w.heap.size, 1, none⟩ = some (.int .u32 t.y) := cell_in hh2
      have z2 : w2.cell? ⟨w.heap.size, 2, none⟩ = some (.int .u32 t.z) := cell_in hh2
      have H2 := Lib.hid hh2
      clear hh2
      refine wp_region_ord [0, 1, 2, 3, 4, 5, 6, 7, 8, 9, 10, 11, 12, 13, 14, 15, 16, 17] [] [18, 19, 20] (by kernel_rfl) (by kernel_rfl) (fun _ _ d _ _ h => by cases d <;> exact h) ?_
      simp only [sel, List.filterMap_cons, List.filterMap_nil, List.getElem?_cons_zero, List.getElem?_cons_succ]
      repeat (quiet_step (fail))
      quiet_step (first | (go_at_call 24; exact Calls.quiet_of_same (four_c a1 _ s1')))
      repeat (quiet_step (fail))
      quiet_step (first | (go_at_call 24; exact Calls.quiet_of_same (four_c a2 _ s2')))
      repeat (quiet_step (fail))
      quiet_step (first | (go_at_call 24; exact Calls.quiet_of_same (four8_c b2 _ s3')))
      repeat (quiet_step (fail))
      refine wpQuiet_nil ?_
      refine wpIdle_nil ?_
      rintro _ ⟨nr, rfl⟩
      clear z0 z1 z2
      go_wp2_with fail
      refine (mixRef_c ⟨_, _, _⟩).mono ?_
      rintro e w3 ⟨rfl, hk3⟩
      have hend := nameFrom_end (N := N) (t := t) (l := s1.data.toList) (by simpa using h12)
      unfold endT at hend
      rw [hr.out] at hend
      simp only [Int.natCast_mul, Int.cast_ofNat_Int] at hend
      generalize hm : mixT _ = u
      rw [hm] at hend
      simp only [Trio.cells]
      have hfld : ∀ w : World, (Instr.field 73 (Value.agg #[.int .u32 u.x, .int .u32 u.y, .int .u32 u.z]) 2).run Try.prog w = .ok (.int .u32 u.z) w := fun _ => rfl
      go_wp2
      go_ret
      rw [hend]
      exact ⟨rfl, (K2.dN nr).trans hk3⟩
end Go.Proofs.Ytfikkjdffmchfaa
