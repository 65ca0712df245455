/- The examples of the document's chapter on disks, as the law runs them. -/
import Derived.Test.YtpikcbgkdnkeaaaDisk5
import Derived.Lib.SlBytesConst
set_option linter.unusedSimpArgs false
set_option linter.unusedVariables false
namespace Go.Proofs.Ytpikcbgkdnkeaaa
open Go.RowKit

/-- A row of bytes in a new block, marked behind its last cell. -/
theorem reads_marked {w : World} {bs : List UInt8} {e : TypeId} {fz : Nat × Nat} (cs : Array Value) (hc : cs = (bs.map bv).toArray) (hm : bs.length ≤ maxLen) :
    Reads (w.alloc (.cells cs e fz)) 1 (.slice (some ⟨w.heap.size, 0, none⟩) bs.length bs.length) bs.length (bs.map bv) (some w.heap.size) := by
  refine ⟨by simp, .inr ⟨_, _, _, rfl, rfl, Nat.le_refl _, hm, fun j hj => ?_⟩⟩
  have : (w.alloc (.cells cs e fz)).heap[w.heap.size]? = some (.cells cs e fz) := heap_alloc_new w _
  rw [cell_in this, hc]
  simp

set_option maxHeartbeats 800000 in
theorem lives_c {w : World} : Calls Try.prog 17 #[] w fun e w' => e = .returned (.bool true) ∧ Kept (fun _ => False) w w' := by
  have kc := fun (w : World) (C : Array Value) (n c : Nat) => Lib.run_convert_bytes_const (P := Try.prog) w 22 5 C n c Try.underlying22 Try.underlying5
  go_enter Try.func17, Try.ntmps17
  go_wp2_with fail
  refine (new_c (by omega) (by omega)).mono ?_
  rintro e w1 ⟨rfl, hd1, hk1⟩
  go_wp2_with fail
  -- Append(abc)
  have r1 := reads_marked (w := w1) (bs := [97, 98, 99]) (e := 5) (fz := (3, 4)) #[.int .u8 97, .int .u8 98, .int .u8 99] rfl (by simp [maxLen])
  have hd1' := hd1.kept (Kept.alloc (fun _ => False) w1 (.cells #[.int .u8 97, .int .u8 98, .int .u8 99] 5 (3, 4))) (fun _ _ h => h)
  refine (append_c hd1' r1 (by simp)).mono ?_
  rintro e w2 ⟨rfl, g2, hd2, hk2, hg2⟩
  simp only [List.nil_append] at hd2
  go_wp2_with fail
  refine (sync_c hd2 rfl).mono ?_
  rintro e w3 ⟨rfl, hd3, hk3⟩
  go_wp2_with fail
  -- Append(def)
  have r3 := reads_marked (w := w3) (bs := [100, 101, 102]) (e := 5) (fz := (3, 4)) #[.int .u8 100, .int .u8 101, .int .u8 102] rfl (by simp [maxLen])
  have hd3' := hd3.kept (Kept.alloc (fun _ => False) w3 (.cells #[.int .u8 100, .int .u8 101, .int .u8 102] 5 (3, 4))) (fun _ _ h => h)
  refine (append_c hd3' r3 (by simp)).mono ?_
  rintro e w4 ⟨rfl, g4, hd4, hk4, hg4⟩
  go_wp2_with fail
  refine (crash_c hd4 1).mono ?_
  rintro e w5 ⟨rfl, hd5, hk5⟩
  have hc : crashTo (0 + (([97, 98, 99] ++ [100, 101, 102] : List UInt8).length : Int)) (0 + (([97, 98, 99] : List UInt8).length : Int)) (-1) 1 = 4 := by decide
  rw [hc] at hd5
  simp only [List.cons_append, List.nil_append, Int.sub_zero, show (4 : Int).toNat = 4 from rfl, List.take_succ_cons, List.take_zero] at hd5
  go_wp2_with fail
  refine (read_c hd5 0 4 (by omega) (by omega) (by simp)).mono ?_
  rintro e w6 ⟨v, g6, rfl, hown6, hk6, hg6⟩
  simp only [part, Int.sub_zero, show (4 : Int).toNat = 4 from rfl, show (0 : Int).toNat = 0 from rfl, List.drop_zero, List.take_succ_cons, List.take_zero] at hown6
  have hd6 := hd5.kept hk6 (fun _ _ h => h)
  have hstr := hown6.reads.string_run (P := Try.prog) (src := 22) (dst := 9) Try.underlying22 Try.underlying5 Try.underlying9
  have hstr' := fun n => (hown6.reads.drewN n).string_run (P := Try.prog) (src := 22) (dst := 9) Try.underlying22 Try.underlying5 Try.underlying9
  obtain ⟨a6, c6, rfl, -, -⟩ := hown6.shape
  go_wp2_with (first
    | (go_at_call 14; refine (end_c hd6).mono ?_; rintro e w7 ⟨rfl, n7, rfl⟩)
    | (go_at_call 15; refine (synced_c (hd6.drewN _)).mono ?_; rintro e w8 ⟨rfl, rfl⟩))
  go_ret
  have s1 := hk1.size
  have s2 := hk2.size
  have s3 := hk3.size
  simp only [World.size_alloc] at s2
  have G2 : ∀ k, g2 = some k → w.heap.size ≤ k := fun k e => by
    rcases hg2 k e with e | e
    · cases e
    · simp only [World.size_alloc] at e; omega
  have K3 := ((hk1.al (.cells #[.int .u8 97, .int .u8 98, .int .u8 99] 5 (3, 4))).thn hk2 (fun i hi => .inr (by rcases hi with rfl | e; exact Nat.le_refl _; cases e))).thn hk3 (fun i hi => .inr (by omega))
  have K5 := ((K3.al (.cells #[.int .u8 100, .int .u8 101, .int .u8 102] 5 (3, 4))).thn hk4 (fun i hi => .inr (by rcases hi with rfl | e; exact Nat.le_refl _; exact G2 _ e))).thn hk5 (fun i hi => .inr (by omega))
  exact ⟨rfl, (K5.trans hk6).dN n7⟩

end Go.Proofs.Ytpikcbgkdnkeaaa
