/- The walk of the law DiskKeeps. -/
import Derived.Test.YtpikcbgkdnkeaaaOpen
import Derived.Test.YtpikcbgkdnkeaaaLives03
set_option linter.unusedSimpArgs false
set_option linter.unusedVariables false
namespace Go.Proofs.Ytpikcbgkdnkeaaa
open Go.RowKit Go.ChangeShapes Go.WideShapes Go.ChangeAt
open Go.ChangeMaps (open_string shut_string)

set_option maxHeartbeats 1000000 in
theorem keeps_big {W : World} {v0 v1 : Value} {ks ts : List UInt8} {g0 g1 : Option Nat} (hr0 : Reads W 1 v0 ks.length (ks.map bv) g0) (hr1 : Reads W 1 v1 ts.length (ts.map bv) g1) (arm keep : Int)
    (m0 : ks.length ≤ 140737488351232) (m1 : ts.length ≤ 140737488351232) (hbig : 67108864 < (ks.length : Int) + ts.length + 1) :
    Calls Try.prog 3 #[v0, v1, .agg #[.int .i64 arm, .int .i64 keep]] W fun e w' => e = .returned (.bool true) ∧ Kept (fun _ => False) W w' := by
  obtain ⟨a0, c0, rfl, hc0⟩ := hr0.shape
  obtain ⟨a1, c1, rfl, hc1⟩ := hr1.shape
  clear hr0 hr1
  have t1 : decide (67108864 < (ks.length : Int) + ts.length + 1) = true := by simpa using hbig
  go_enter Try.func3, Try.ntmps3
  go_wp2_with fail
  go_quiet (fail)
  go_wp2_with fail
  refine (new_no (by omega)).mono ?_
  rintro e w1 ⟨rfl, rfl⟩
  go_wp2_with fail
  go_ret
  exact ⟨rfl, (Kept.alloc _ _ _).dN nq⟩

set_option maxRecDepth 100000 in
set_option maxHeartbeats 2000000 in
theorem keeps_plain {W : World} {v0 v1 : Value} {ks ts : List UInt8} {g0 g1 : Option Nat} (hr0 : Reads W 1 v0 ks.length (ks.map bv) g0) (hr1 : Reads W 1 v1 ts.length (ts.map bv) g1) (hg0 : ∀ k, g0 = some k → ks ≠ [] → k < W.heap.size) (hg1 : ∀ k, g1 = some k → ts ≠ [] → k < W.heap.size) (arm keep : Int)
    (hbig : (ks.length : Int) + ts.length + 1 ≤ 67108864) (ka : keep < 9223372036854775808) (kb : -9223372036854775808 ≤ keep) (kc : arm < 9223372036854775808) (kd : -9223372036854775808 ≤ arm) (h0 : arm < 0) :
    Calls Try.prog 3 #[v0, v1, .agg #[.int .i64 arm, .int .i64 keep]] W fun e w' => e = .returned (.bool true) ∧ Kept (fun _ => False) W w' := by
  obtain ⟨i0, hi, hz0, hz1, hz2⟩ := info_parts info_u8
  obtain ⟨a0, c0, rfl, hc0⟩ := hr0.shape
  obtain ⟨a1, c1, rfl, hc1⟩ := hr1.shape
  have q0 : decide (0 ≤ arm) = false := by simp; omega
  go_enter Try.func3, Try.ntmps3
  go_wp2_with fail
  go_quiet (fail)
  go_wp2_with fail
  refine (new_c (by omega) (by omega)).mono ?_
  rintro e w1 ⟨rfl, hd1, hk1⟩
  have K1 : Kept (fun _ => False) W w1 := ((Kept.alloc _ _ _).dN nq).trans hk1
  generalize hp : ((W.alloc (Obj.cells #[Value.int IntKind.i64 arm, Value.int IntKind.i64 keep] 23)).drewN nq).heap.size = p at hd1 ⊢
  have hpW : W.heap.size ≤ p := by rw [← hp]; simp
  clear hp hk1
  have hr01 := hr0.kept K1 (fun _ _ h => h)
  go_wp2_with fail
  refine (append_c hd1 hr01 (by simp only [List.length_nil]; omega)).mono ?_
  rintro e w2 ⟨rfl, g2, hd2, hk2, hg2⟩
  simp only [List.nil_append] at hd2
  have s1 := K1.size
  have G2 : ∀ j, g2 = some j → W.heap.size ≤ j := fun j e => by rcases hg2 j e with e | e; cases e; omega
  have K2 := K1.thn hk2 (fun i hi => .inr (by rcases hi with rfl | e; exact hpW; cases e))
  go_wp2_with fail
  refine (sync_c hd2 (by simp [frz])).mono ?_
  rintro e w3 ⟨rfl, hd3, hk3⟩
  have K3 := K2.thn hk3 (fun i hi => .inr (by omega))
  go_wp2_with fail
  have hr13 := hr1.kept K3 (fun _ _ h => h)
  refine (append_c hd3 hr13 (by omega)).mono ?_
  rintro e w4 ⟨rfl, g4, hd4, hk4, hg4⟩
  have s3 := K3.size
  have K4 := K3.thn hk4 (fun i hi => .inr (by rcases hi with rfl | e; exact hpW; exact G2 _ e))
  go_wp2_with fail
  refine (sync_c hd4 (by simp [frz])).mono ?_
  rintro e w5 ⟨rfl, hd5, hk5⟩
  have K5 := K4.thn hk5 (fun i hi => .inr (by omega))
  go_wp2_with fail
  refine (frozen_c hd5 false (by simp [frz])).mono ?_
  rintro e _ ⟨rfl, n6, rfl⟩
  go_wp2_with fail
  refine (crash_c (hd5.drewN _) keep).mono ?_
  rintro e w7 ⟨rfl, hdc, hk7⟩
  have hkc := (K5.dN n6).thn hk7 (fun i hi => .inr (by omega))
  have hto : crashTo (0 + ((ks ++ ts).length : Int)) (0 + ((ks ++ ts).length : Int)) (-1) keep = ks.length + (ts.length : Int) := by
    rw [crashTo, if_neg (by omega)]; simp only [List.length_append]; omega
  have htk : (ks ++ ts).take ((ks.length : Int) + (ts.length : Int) - 0).toNat = ks ++ ts := List.take_of_length_le (by simp only [List.length_append]; omega)
  rw [hto, htk] at hdc
  clear hto htk
  -- the disk now: all bytes that stay, synced
  have KC := Lib.hid hkc
  clear hkc
  obtain ⟨bs, hbs⟩ : ∃ bs, bs = ks ++ ts := ⟨_, rfl⟩
  rw [← hbs] at hdc
  have hb1 : (bs.length : Int) ≤ (ks.length : Int) + (ts.length : Int) := by rw [hbs]; simp
  have hb2 : (ks.length : Int) + (ts.length : Int) ≤ (bs.length : Int) := by rw [hbs]; simp
  have HBS := Lib.hid hbs
  clear hbs
  obtain ⟨e1, he1⟩ : ∃ e1 : Int, e1 = (ks.length : Int) + (ts.length : Int) := ⟨_, rfl⟩
  rw [← he1] at hdc
  have he2 : e1 ≤ bs.length := by omega
  have he3 : (bs.length : Int) ≤ e1 := by omega
  clear he1
  go_wp2_with fail
  refine (end_c hdc).mono ?_
  rintro e _ ⟨rfl, n1, rfl⟩
  go_wp2_with fail
  refine (read_c (hdc.drewN _) 0 bs.length (by omega) (by omega) (by omega)).mono ?_
  rintro e w8 ⟨v8, g8, rfl, hown8, hk8, hg8⟩
  have hpart : part bs ((0 : Int) - 0).toNat ((bs.length : Int)).toNat = bs := by
    unfold part
    rw [show ((0 : Int) - 0).toNat = 0 from rfl, List.drop_zero, List.take_of_length_le (by omega)]
  rw [hpart, Int.toNat_natCast] at hown8
  clear hpart
  obtain ⟨a8, c8, rfl, -, -⟩ := hown8.shape
  have hd8 := (hdc.drewN n1).kept hk8 (fun _ _ h => h)
  have K8 := (KC.out.dN n1).trans hk8
  have hr08 := hr0.kept K8 (fun _ _ h => h)
  have hr18 := hr1.kept K8 (fun _ _ h => h)
  have hs8 := K8.size
  obtain ⟨a9, c9, hsl, hrd⟩ := hr18.sliceTo_run (P := Try.prog) (t := 22) (hi := (ts.length : Int)) (k := ts.length) Try.underlying22 size_u8 hc1 (by omega) (by omega)
  rw [Nat.mul_one, ← List.map_take] at hrd
  rw [List.take_length] at hrd
  have u1 : IntKind.i64.wrap ((ks.length : Int) + (ts.length : Int)) = (ks.length : Int) + (ts.length : Int) := IntWalk.i64_in _ (by omega)
  have u2 : ((bs.length : Int) == (ks.length : Int) + (ts.length : Int)) = true := beq_iff_eq.2 (by omega)
  have u3 : (e1 == (bs.length : Int)) = true := beq_iff_eq.2 (by omega)
  go_wp2_with fail
  refine wp_region_ord [0, 1, 2, 3, 4, 5, 6, 7, 8, 9, 10, 11, 12, 13, 14, 15, 16, 17, 18, 19, 20, 21, 22, 23] [24, 26, 28, 29, 30] [25, 27, 31, 32, 33, 34, 35, 36, 37] (by kernel_rfl) (by kernel_rfl) (fun _ _ d _ _ h => by cases d <;> exact h) ?_
  simp only [sel, List.filterMap_cons, List.filterMap_nil, List.getElem?_cons_zero, List.getElem?_cons_succ]
  repeat (quiet_step (first
    | (go_at_call 14; exact Calls.quiet_of (end_c (hd8.drewN _)))
    | (go_at_call 15; exact Calls.quiet_of_same (synced_c (hd8.drewN _)))
    | (go_at_call 11; exact Calls.quiet_of (frozen_c (hd8.drewN _) false rfl))))
  refine wpQuiet_nil ?_
  repeat (refine wpIdle_step (fun K hK => ?_); go_simp; refine hK _ ?_; clear hK K)
  refine wpIdle_nil ?_
  rintro _ ⟨nr, rfl⟩
  refine wpList_step (fun K hK => ?_)
  go_simp
  refine hK _ _ ?_
  clear hK K
  have o1 := own_empty (w8.drewN nr) 5
  have hr09 : Reads ((w8.drewN nr).alloc (.cells #[] 5)) 1 (.slice a0 ks.length c0) ks.length (ks.map bv) g0 := (hr08.drewN nr).kept (Kept.alloc (fun _ => False) _ _) (fun _ _ h => h)
  refine wpList_append_OwnG rfl _ _ 22 22 rfl 5 i0 (.int .u8 0) 1 1 Try.underlying22 hi hz0 hz1 hz2 rfl rfl o1 rfl (hr09.src Try.underlying22 (bv_one _)) (by unfold maxLen; omega) (by omega) ?_
  intro a10 c10 w10 g10 hown10 hk10 hg10
  simp only [Nat.zero_add, List.nil_append] at hown10
  simp only [Nat.zero_add]
  have K10 : Kept (fun _ => False) w8 w10 := (((Kept.refl (fun _ => False) w8).dN nr).al _).thn hk10 (fun i hi => .inr (by simp at hi; omega))
  have hrd10 := hrd.kept K10 (fun _ _ h => h)
  refine wpList_append_OwnG rfl _ _ 22 22 rfl 5 i0 (.int .u8 0) 1 1 Try.underlying22 hi hz0 hz1 hz2 rfl rfl hown10 rfl (hrd10.src Try.underlying22 (bv_one _)) (by unfold maxLen; omega) (by omega) ?_
  intro a11 c11 w11 g11 hown11 hk11 hg11
  have G10 : ∀ j, g10 = some j → W.heap.size ≤ j := fun j e => by
    rcases hg10 j e with e | e
    · simp at e; omega
    · simp at e; omega
  have K11 : Kept (fun _ => False) W w11 := (K8.trans K10).thn hk11 (fun i hi => .inr (G10 i hi))
  rw [← List.map_append] at hown11
  have hown8' := hown8.kept (F := fun k => g10 = some k) (w' := w11) ?kk ?ff
  case kk => exact (K10.mono (fun _ _ h => h.elim)).trans hk11
  case ff =>
    intro j hj e
    rcases hg10 j e with e | e
    · have := hown8.lt j hj; simp at e; omega
    · have := hown8.lt j hj; simp at e; omega
  refine wpList_step (fun K hK => ?_)
  go_simp
  refine (same_c (xs := bs) (ys := ks ++ ts) hown8'.reads (by rw [show (ks ++ ts).length = ks.length + ts.length by simp]; exact hown11.reads) true (by simpa using HBS.out)).mono ?_
  rintro e w11 ⟨rfl, rfl⟩
  refine hK _ _ ?_
  clear hK K
  repeat (refine wpList_step (fun K hK => ?_); go_simp; refine hK _ _ ?_; clear hK K)
  refine wpList_step (fun K hK => ?_)
  go_simp
  refine lives_c.mono ?_
  rintro e w12 ⟨rfl, hk12⟩
  refine hK _ _ ?_
  clear hK K
  repeat (refine wpList_step (fun K hK => ?_); go_simp; refine hK _ _ ?_; clear hK K)
  refine wpList_nil ?_
  go_wp2
  go_ret
  exact ⟨rfl, K11.trans hk12⟩

end Go.Proofs.Ytpikcbgkdnkeaaa
