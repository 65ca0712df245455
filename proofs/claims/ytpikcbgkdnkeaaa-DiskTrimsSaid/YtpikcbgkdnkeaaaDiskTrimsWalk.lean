/- The walk of the law DiskTrims. -/
import Derived.Test.YtpikcbgkdnkeaaaOpen
import Derived.Test.YtpikcbgkdnkeaaaLives03
set_option linter.unusedSimpArgs false
set_option linter.unusedVariables false
namespace Go.Proofs.Ytpikcbgkdnkeaaa
open Go.RowKit Go.ChangeShapes Go.WideShapes Go.ChangeAt
open Go.ChangeMaps (open_string shut_string)

theorem Reads.keptN {F : Nat → Prop} {w w' : World} {size n : Nat} {g : Option Nat} {v : Value} {l : List Value} (h : Reads w size v n l g) (hk : Kept F w w') (hf : ∀ k, g = some k → l ≠ [] → ¬ F k) : Reads w' size v n l g :=
  h.heap fun k hg hl => hk.block k (h.lt hl k hg) (hf k hg hl)

/-- What holds at the head of each round: the disk and 'all' hold the same bytes. -/
def TrimRel (W : World) (p n : Nat) (v i : Value) (wr : World) : Prop :=
  ∃ (k : Nat) (acc : List UInt8) (a : Option Addr) (c : Nat) (g gd : Option Nat), k ≤ n ∧ i = .int .i64 k ∧ v = .slice a acc.length c ∧ acc.length ≤ 65536 ∧ Own wr 5 1 (.slice a acc.length c) acc.length (acc.map bv) g ∧ IsDisk wr p gd 65536 0 acc 0 (-1) ∧
    Kept (fun _ => False) W wr ∧ (∀ k, g = some k → W.heap.size < k) ∧ (∀ k, gd = some k → W.heap.size < k) ∧ (∀ k, g = some k → ¬ Fp p gd k)

set_option maxRecDepth 100000 in
set_option maxHeartbeats 2000000 in
theorem trims_core {W : World} {v0 : Value} {n : Nat} {L : List (List UInt8)} (hb : Bytess W v0 n L) (x y : Int) (hx : 0 ≤ x) (hx2 : x < 18446744073709551616) (hy : 0 ≤ y) (hy2 : y < 18446744073709551616) :
    Calls Try.prog 5 #[v0, .agg #[.int .u64 x, .int .u64 y]] W fun e w' => e = .returned (.bool true) ∧ Kept (fun _ => False) W w' := by
  obtain ⟨i0, hi, hz0, hz1, hz2⟩ := info_parts info_u8
  obtain ⟨hlen, ⟨a0, c0, rfl, hc0⟩, hsmall, hel⟩ := hb
  have HEL := Lib.hid hel
  clear hel
  go_enter Try.func5, Try.ntmps5
  go_wp2_with fail
  refine (new_c (by omega) (by omega)).mono ?_
  rintro e w1 ⟨rfl, hd1, hk1⟩
  have K1 : Kept (fun _ => False) W w1 := (Kept.alloc _ _ _).trans hk1
  have hz1' : w1.heap[W.heap.size]? = some (.cells #[.int .u64 x, .int .u64 y] 41) := (hk1.block _ (by simp) (fun h => h)).trans (heap_alloc_new W _)
  generalize hp : (W.alloc (Obj.cells #[Value.int IntKind.u64 x, Value.int IntKind.u64 y] 41)).heap.size = p at hd1 ⊢
  have hpW : W.heap.size < p := by rw [← hp]; simp
  clear hp hk1
  go_wp2_with fail
  go_loopw [7, 29] (fun v i wr => TrimRel W p n v i wr ∧ wr.heap[W.heap.size]? = some (.cells #[.int .u64 x, .int .u64 y] 41)) (fun _ i _ => n - (intOf i).toNat)
  case atStart => exact ⟨⟨0, [], none, 0, none, none, Nat.zero_le _, rfl, rfl, by simp, Own.nil _ _ _, hd1, K1, (fun k e => by cases e), (fun k e => by cases e), (fun k e => by cases e)⟩, hz1'⟩
  case round =>
    obtain ⟨⟨k, acc, a, c, g, gd, hkn, rfl, rfl, hacc, hown, hdk, hK, hG, hGd, hap⟩, hzz⟩ := hrel
    by_cases hkl : k < n
    · obtain ⟨b, off, c', ev, ge, hv, hbl, hcell, hre, hge, hle⟩ := HEL.out k hkl
      simp only [Value.slice.injEq, true_and] at hv
      obtain ⟨rfl, rfl⟩ := hv
      --ROUND
      have hcw : wr.cell? ⟨b, off + k, none⟩ = some ev := (hK.cell (a := ⟨b, off + k, none⟩) hbl (fun h => h)).trans hcell
      have hrw := hre.kept hK (fun _ _ h => h)
      generalize hLL : L.getD k [] = bs at hre hge hle hrw
      clear hLL hre hcell
      obtain ⟨ae, ce, rfl, hce⟩ := hrw.shape
      by_cases hbig : 65536 < (acc.length : Int) + bs.length
      · have t1 : decide (65536 < (acc.length : Int) + bs.length) = true := by simpa using hbig
        go_wp2_with fail
        refine (sync_c hdk (by simp [frz])).mono ?_
        rintro e w2 ⟨rfl, hd2, hk2⟩
        have hown2 := hown.kept hk2 (fun j hj e => hap j hj (.inl e))
        have K2 := hK.thn hk2 (fun i hi => .inr (by omega))
        have z2 : w2.heap[W.heap.size]? = _ := (hk2.block _ (lt_in hzz) (by omega)).trans hzz
        have y0 : w2.cell? ⟨W.heap.size, 0, none⟩ = some (.int .u64 x) := cell_in z2
        have m0 : 0 ≤ x % ((acc.length : Int) + 1) := Int.emod_nonneg _ (by omega)
        have m1 : x % ((acc.length : Int) + 1) < acc.length + 1 := Int.emod_lt_of_pos _ (by omega)
        clear hzz
        go_wp2_with fail
        generalize x % ((acc.length : Int) + 1) = fr at m0 m1 ⊢
        -- Trim
        refine (trim_c hd2 fr (by omega) (by omega) (by omega) (by simp [frz])).mono ?_
        rintro e w3 ⟨rfl, g3, hd3, hk3, hg3⟩
        rw [Int.sub_zero] at hd3
        have K3 := K2.thn hk3 (fun i hi => .inr (by omega))
        have hown3 := hown2.kept hk3 (fun j hj e => hap j hj (.inl e))
        have z3 : w3.heap[W.heap.size]? = _ := (hk3.block _ (lt_in z2) (by omega)).trans z2
        clear z2 y0
        obtain ⟨bs3, hbs3⟩ : ∃ bs3, bs3 = acc.drop fr.toNat := ⟨_, rfl⟩
        rw [← hbs3] at hd3
        have b1 : (bs3.length : Int) ≤ acc.length - fr := by rw [hbs3, List.length_drop]; omega
        have b2 : acc.length - fr ≤ (bs3.length : Int) := by rw [hbs3, List.length_drop]; omega
        have HB3 := Lib.hid hbs3
        clear hbs3
        have u1 : ((fr + (bs3.length : Int)) != (acc.length : Int)) = false := by rw [bne_eq_false_iff_eq]; omega
        have u0 : (fr != fr) = false := by simp
        have y1 : w3.cell? ⟨W.heap.size, 1, none⟩ = some (.int .u64 y) := cell_in z3
        have y1' : ∀ n, (w3.drewN n).cell? ⟨W.heap.size, 1, none⟩ = some (.int .u64 y) := fun n => cell_in (w := w3.drewN n) z3
        have m2 : 0 ≤ y % ((acc.length : Int) - fr + 1) := Int.emod_nonneg _ (by omega)
        have m3 : y % ((acc.length : Int) - fr + 1) < acc.length - fr + 1 := Int.emod_lt_of_pos _ (by omega)
        go_wp2_with (first
          | (go_at_call 20; refine (base_c hd3).mono ?_; rintro e w3 ⟨rfl, rfl⟩)
          | (go_at_call 14; refine (end_c hd3).mono ?_; rintro e _ ⟨rfl, n4, rfl⟩))
        generalize y % ((acc.length : Int) - fr + 1) = dl at m2 m3 ⊢
        -- Cut
        obtain ⟨to, hto⟩ : ∃ to : Int, to = fr + dl := ⟨_, rfl⟩
        rw [← hto]
        have t1 : fr ≤ to := by omega
        have t2 : to ≤ acc.length := by omega
        clear hto y1 y1'
        refine (cut_c (hd3.drewN n4) to (by omega) (by omega) (by simp [frz])).mono ?_
        rintro e w5 ⟨rfl, hd5, hk5⟩
        have K5 := (K3.dN n4).thn hk5 (fun i hi => .inr (by omega))
        have hown5 := (hown3.drewN n4).kept hk5 (fun j hj e => hap j hj (.inl e))
        obtain ⟨bs5, hbs5⟩ : ∃ bs5, bs5 = bs3.take (to - fr).toNat := ⟨_, rfl⟩
        obtain ⟨sy5, hsy5⟩ : ∃ sy5 : Int, sy5 = min (0 + (acc.length : Int)) to := ⟨_, rfl⟩
        rw [← hbs5, ← hsy5] at hd5
        have b3 : (bs5.length : Int) ≤ to - fr := by rw [hbs5, List.length_take]; omega
        have b4 : to - fr ≤ (bs5.length : Int) := by rw [hbs5, List.length_take]; omega
        have b5 : sy5 ≤ to := by omega
        have b6 : to ≤ sy5 := by omega
        have HB5 := Lib.hid hbs5
        clear hbs5 hsy5
        have u2 : ((fr + (bs5.length : Int)) != to) = false := by rw [bne_eq_false_iff_eq]; omega
        have u3 : (sy5 != to) = false := by rw [bne_eq_false_iff_eq]; omega
        go_wp2_with (first
          | (go_at_call 14; refine (end_c hd5).mono ?_; rintro e _ ⟨rfl, n6, rfl⟩)
          | (go_at_call 15; refine (synced_c (hd5.drewN _)).mono ?_; rintro e w7 ⟨rfl, rfl⟩))
        -- Read
        refine (read_c (hd5.drewN n6) fr (to - fr) (by omega) (by omega) (by omega)).mono ?_
        rintro e w8 ⟨v8, g8, rfl, hown8, hk8, hg8⟩
        have hd8 := (hd5.drewN n6).kept hk8 (fun _ _ h => h)
        have K8 := (K5.dN n6).trans hk8
        have hown58 := (hown5.drewN n6).kept hk8 (fun _ _ h => h)
        have hpart : part bs5 (fr - fr).toNat (to - fr).toNat = bs5 := by
          unfold part
          rw [show (fr - fr).toNat = 0 by omega, List.drop_zero, List.take_of_length_le (by omega)]
        rw [hpart, show (to - fr).toNat = bs5.length by omega] at hown8
        clear hpart
        obtain ⟨a8, c8, rfl, -, -⟩ := hown8.shape
        go_wp2_with fail
        refine (read_no hd8 fr (to - fr + 1) (by omega) (by omega) (by omega) (by omega)).mono ?_
        rintro e _ ⟨rfl, n9, rfl⟩
        go_wp2_with fail
        refine (crash_c (hd8.drewN n9) 0).mono ?_
        rintro e w10 ⟨rfl, hd10, hk10⟩
        have hcr : crashTo (fr + (bs5.length : Int)) sy5 (-1) 0 = to := by
          rw [crashTo, if_neg (by omega)]; omega
        rw [hcr, List.take_of_length_le (by omega)] at hd10
        clear hcr
        have K10 := (K8.dN n9).thn hk10 (fun i hi => .inr (by omega))
        have lt8 : ∀ j, g8 = some j → j ≠ p := fun j hj => by have h1 := hg8 j hj; have h2 := hd5.lt p (.inl rfl); simp at h1; omega
        have hown8' := (hown8.drewN n9).kept hk10 (fun j hj e => lt8 j hj e)
        have hown10 := (hown58.drewN n9).kept hk10 (fun j hj e => hap j hj (.inl e))
        have hcc := hown.shape
        obtain ⟨a12, c12, hsl, hrd⟩ := hown10.reads.slice_run (P := Try.prog) (t := 22) (lo := fr) (hi := to) (k := bs5.length) Try.underlying22 size_u8 (by obtain ⟨_, _, e, h1, -⟩ := hcc; simp at e; omega) (by omega) (by omega) (by omega)
        rw [Nat.mul_one, Nat.mul_one, ← List.map_drop, ← List.map_take] at hrd
        have hsame : bs5 = ((acc.drop fr.toNat).take bs5.length) := by
          have h5 := HB5.out
          rw [← HB3.out]
          conv => lhs; rw [h5]
          congr 1
          omega
        rw [← hsame] at hrd
        clear hsame hcc
        have u4 : ((fr + (bs5.length : Int)) == to) = true := beq_iff_eq.2 (by omega)
        go_wp2_with (first
          | (go_at_call 16; refine (same_c hown8'.reads hrd true (by simp)).mono ?_; rintro e w10 ⟨rfl, rfl⟩)
          | (go_at_call 14; refine (end_c hd10).mono ?_; rintro e _ ⟨rfl, n11, rfl⟩)
          | (go_at_call 17; refine lives_c.mono ?_; rintro e w12 ⟨rfl, hk12⟩))
        go_ret
        exact ⟨rfl, (K10.dN n11).trans hk12⟩
      · have t1 : decide (65536 < (acc.length : Int) + bs.length) = false := by simpa using hbig
        go_wp2_with fail
        refine (append_c hdk hrw (by omega)).mono ?_
        rintro e w2 ⟨rfl, g2, hd2, hk2, hg2⟩
        have hown2 := hown.kept hk2 (fun j hj => hap j hj)
        have K2 := hK.thn hk2 (fun i hi => .inr (by rcases hi with rfl | e; omega; exact Nat.le_of_lt (hGd _ e)))
        have hr2 := hrw.keptN hk2 (fun j hj hne h => by
          have := hge j hj (fun e => hne (by rw [e]; rfl))
          rcases h with rfl | e
          · omega
          · have := hGd _ e; omega)
        have z2 : w2.heap[W.heap.size]? = _ := (hk2.block _ (lt_in hzz) (fun h => by rcases h with e | e; omega; exact absurd (hGd _ e) (by omega))).trans hzz
        have s1 := hK.size
        have s2 := hk2.size
        have hgl := hown.lt
        have hlt := lt_in hzz
        have G2 : ∀ j, g2 = some j → W.heap.size < j := fun j e => by
          rcases hg2 j e with e | e
          · exact hGd _ e
          · omega
        have ap2 : ∀ j, g = some j → ¬ Fp p g2 j := fun j hj h => by
          rcases h with rfl | e
          · exact hap _ hj (.inl rfl)
          · rcases hg2 j e with e | e
            · exact hap _ hj (.inr e)
            · have := hgl j hj; omega
        have hp2 := hd2.lt
        have HG := Lib.hid hG
        have HGd := Lib.hid hGd
        have HGE := Lib.hid hge
        have HAP := Lib.hid hap
        have HG2 := Lib.hid hg2
        have HGL := Lib.hid hgl
        have HGG := Lib.hid G2
        have HA2 := Lib.hid ap2
        have HP2 := Lib.hid hp2
        clear hG hGd hge hap hg2 hgl G2 ap2 hp2
        go_wp2_with (at_builtin; refine wpList_append_Own rfl _ _ 22 22 rfl 5 i0 (.int .u8 0) 1 1 Try.underlying22 hi hz0 hz1 hz2 rfl rfl hown2 rfl (hr2.src Try.underlying22 (bv_one _)) (by unfold maxLen; omega) (by omega) ?_; intro a3 c3 w3 g3 hown3 hk3 hg3; have HG3 := Lib.hid hg3; clear hg3)
        go_roundw
        case rel =>
          refine ⟨⟨k + 1, acc ++ bs, a3, c3, g3, g2, by omega, by go_num, by simp, by simp; omega, by simpa using hown3, hd2.kept hk3 (fun j hj h => HA2.out j h hj), K2.thn hk3 (fun i hi => .inr (Nat.le_of_lt (HG.out i hi))), fun j hj => ?_, HGG.out, fun j hj h => ?_⟩, (hk3.block _ (lt_in z2) (fun h => by have := HG.out _ h; omega)).trans z2⟩
          · rcases HG3.out j hj with e | e
            · exact HG.out j e
            · omega
          · rcases HG3.out j hj with e | e
            · exact HA2.out j e h
            · have := HP2.out j h; omega
        case measure => simp [intOf]; omega
    · have hkn' : k = n := by omega
      subst hkn'
      have t1 : decide ((k : Int) < (k : Int)) = false := by simp
      go_wp2_with fail
      refine (sync_c hdk (by simp [frz])).mono ?_
      rintro e w2 ⟨rfl, hd2, hk2⟩
      have hown2 := hown.kept hk2 (fun j hj e => hap j hj (.inl e))
      have K2 := hK.thn hk2 (fun i hi => .inr (by omega))
      have z2 : w2.heap[W.heap.size]? = _ := (hk2.block _ (lt_in hzz) (by omega)).trans hzz
      have y0 : w2.cell? ⟨W.heap.size, 0, none⟩ = some (.int .u64 x) := cell_in z2
      have m0 : 0 ≤ x % ((acc.length : Int) + 1) := Int.emod_nonneg _ (by omega)
      have m1 : x % ((acc.length : Int) + 1) < acc.length + 1 := Int.emod_lt_of_pos _ (by omega)
      clear hzz
      go_wp2_with fail
      generalize x % ((acc.length : Int) + 1) = fr at m0 m1 ⊢
      -- Trim
      refine (trim_c hd2 fr (by omega) (by omega) (by omega) (by simp [frz])).mono ?_
      rintro e w3 ⟨rfl, g3, hd3, hk3, hg3⟩
      rw [Int.sub_zero] at hd3
      have K3 := K2.thn hk3 (fun i hi => .inr (by omega))
      have hown3 := hown2.kept hk3 (fun j hj e => hap j hj (.inl e))
      have z3 : w3.heap[W.heap.size]? = _ := (hk3.block _ (lt_in z2) (by omega)).trans z2
      clear z2 y0
      obtain ⟨bs3, hbs3⟩ : ∃ bs3, bs3 = acc.drop fr.toNat := ⟨_, rfl⟩
      rw [← hbs3] at hd3
      have b1 : (bs3.length : Int) ≤ acc.length - fr := by rw [hbs3, List.length_drop]; omega
      have b2 : acc.length - fr ≤ (bs3.length : Int) := by rw [hbs3, List.length_drop]; omega
      have HB3 := Lib.hid hbs3
      clear hbs3
      have u1 : ((fr + (bs3.length : Int)) != (acc.length : Int)) = false := by rw [bne_eq_false_iff_eq]; omega
      have u0 : (fr != fr) = false := by simp
      have y1 : w3.cell? ⟨W.heap.size, 1, none⟩ = some (.int .u64 y) := cell_in z3
      have y1' : ∀ n, (w3.drewN n).cell? ⟨W.heap.size, 1, none⟩ = some (.int .u64 y) := fun n => cell_in (w := w3.drewN n) z3
      have m2 : 0 ≤ y % ((acc.length : Int) - fr + 1) := Int.emod_nonneg _ (by omega)
      have m3 : y % ((acc.length : Int) - fr + 1) < acc.length - fr + 1 := Int.emod_lt_of_pos _ (by omega)
      go_wp2_with (first
        | (go_at_call 20; refine (base_c hd3).mono ?_; rintro e w3 ⟨rfl, rfl⟩)
        | (go_at_call 14; refine (end_c hd3).mono ?_; rintro e _ ⟨rfl, n4, rfl⟩))
      generalize y % ((acc.length : Int) - fr + 1) = dl at m2 m3 ⊢
      -- Cut
      obtain ⟨to, hto⟩ : ∃ to : Int, to = fr + dl := ⟨_, rfl⟩
      rw [← hto]
      have t1 : fr ≤ to := by omega
      have t2 : to ≤ acc.length := by omega
      clear hto y1 y1'
      refine (cut_c (hd3.drewN n4) to (by omega) (by omega) (by simp [frz])).mono ?_
      rintro e w5 ⟨rfl, hd5, hk5⟩
      have K5 := (K3.dN n4).thn hk5 (fun i hi => .inr (by omega))
      have hown5 := (hown3.drewN n4).kept hk5 (fun j hj e => hap j hj (.inl e))
      obtain ⟨bs5, hbs5⟩ : ∃ bs5, bs5 = bs3.take (to - fr).toNat := ⟨_, rfl⟩
      obtain ⟨sy5, hsy5⟩ : ∃ sy5 : Int, sy5 = min (0 + (acc.length : Int)) to := ⟨_, rfl⟩
      rw [← hbs5, ← hsy5] at hd5
      have b3 : (bs5.length : Int) ≤ to - fr := by rw [hbs5, List.length_take]; omega
      have b4 : to - fr ≤ (bs5.length : Int) := by rw [hbs5, List.length_take]; omega
      have b5 : sy5 ≤ to := by omega
      have b6 : to ≤ sy5 := by omega
      have HB5 := Lib.hid hbs5
      clear hbs5 hsy5
      have u2 : ((fr + (bs5.length : Int)) != to) = false := by rw [bne_eq_false_iff_eq]; omega
      have u3 : (sy5 != to) = false := by rw [bne_eq_false_iff_eq]; omega
      go_wp2_with (first
        | (go_at_call 14; refine (end_c hd5).mono ?_; rintro e _ ⟨rfl, n6, rfl⟩)
        | (go_at_call 15; refine (synced_c (hd5.drewN _)).mono ?_; rintro e w7 ⟨rfl, rfl⟩))
      -- Read
      refine (read_c (hd5.drewN n6) fr (to - fr) (by omega) (by omega) (by omega)).mono ?_
      rintro e w8 ⟨v8, g8, rfl, hown8, hk8, hg8⟩
      have hd8 := (hd5.drewN n6).kept hk8 (fun _ _ h => h)
      have K8 := (K5.dN n6).trans hk8
      have hown58 := (hown5.drewN n6).kept hk8 (fun _ _ h => h)
      have hpart : part bs5 (fr - fr).toNat (to - fr).toNat = bs5 := by
        unfold part
        rw [show (fr - fr).toNat = 0 by omega, List.drop_zero, List.take_of_length_le (by omega)]
      rw [hpart, show (to - fr).toNat = bs5.length by omega] at hown8
      clear hpart
      obtain ⟨a8, c8, rfl, -, -⟩ := hown8.shape
      go_wp2_with fail
      refine (read_no hd8 fr (to - fr + 1) (by omega) (by omega) (by omega) (by omega)).mono ?_
      rintro e _ ⟨rfl, n9, rfl⟩
      go_wp2_with fail
      refine (crash_c (hd8.drewN n9) 0).mono ?_
      rintro e w10 ⟨rfl, hd10, hk10⟩
      have hcr : crashTo (fr + (bs5.length : Int)) sy5 (-1) 0 = to := by
        rw [crashTo, if_neg (by omega)]; omega
      rw [hcr, List.take_of_length_le (by omega)] at hd10
      clear hcr
      have K10 := (K8.dN n9).thn hk10 (fun i hi => .inr (by omega))
      have lt8 : ∀ j, g8 = some j → j ≠ p := fun j hj => by have h1 := hg8 j hj; have h2 := hd5.lt p (.inl rfl); simp at h1; omega
      have hown8' := (hown8.drewN n9).kept hk10 (fun j hj e => lt8 j hj e)
      have hown10 := (hown58.drewN n9).kept hk10 (fun j hj e => hap j hj (.inl e))
      have hcc := hown.shape
      obtain ⟨a12, c12, hsl, hrd⟩ := hown10.reads.slice_run (P := Try.prog) (t := 22) (lo := fr) (hi := to) (k := bs5.length) Try.underlying22 size_u8 (by obtain ⟨_, _, e, h1, -⟩ := hcc; simp at e; omega) (by omega) (by omega) (by omega)
      rw [Nat.mul_one, Nat.mul_one, ← List.map_drop, ← List.map_take] at hrd
      have hsame : bs5 = ((acc.drop fr.toNat).take bs5.length) := by
        have h5 := HB5.out
        rw [← HB3.out]
        conv => lhs; rw [h5]
        congr 1
        omega
      rw [← hsame] at hrd
      clear hsame hcc
      have u4 : ((fr + (bs5.length : Int)) == to) = true := beq_iff_eq.2 (by omega)
      go_wp2_with (first
        | (go_at_call 16; refine (same_c hown8'.reads hrd true (by simp)).mono ?_; rintro e w10 ⟨rfl, rfl⟩)
        | (go_at_call 14; refine (end_c hd10).mono ?_; rintro e _ ⟨rfl, n11, rfl⟩)
        | (go_at_call 17; refine lives_c.mono ?_; rintro e w12 ⟨rfl, hk12⟩))
      go_ret
      exact ⟨rfl, (K10.dN n11).trans hk12⟩

theorem diskTrims_walk {H : Type} {enc : TypeId × Value → H} {W : World} {base : Nat} {v0 v1 : Value} {d0 d1 : DataW H} {p0 p1 : List MemPlace}
    (k0 : Value.okWide Try.prog W .any base 40 v0) (h0 : DataW.Trod enc Try.prog W 0 (fun _ => true) true 40 v0 d0 p0)
    (k1 : Value.okWide Try.prog W .any base 41 v1) (h1 : DataW.Trod enc Try.prog W 0 (fun _ => true) true 41 v1 d1 p1)
    {ts : List TypeId} {ds : List (DataW H)} (hsz : (DataW.weightsEach Try.prog ([40, 41] ++ ts) ([d0, d1] ++ ds)).all (· ≤ reachBytes) = true) :
    Calls Try.prog 5 #[v0, v1] W fun e w' => e = .returned (.bool true) ∧ Below W.heap.size W w' := by
  obtain ⟨n, L, hb⟩ := open_bytess Try.underlying40 Try.underlying22 Try.underlying5 (by kernel_rfl) (by kernel_rfl) (by kernel_rfl) (by kernel_rfl) k0 h0 hsz (j := 0) rfl rfl
  obtain ⟨x, y, rfl, wf1, wf2⟩ := open_arr2 Try.underlying41 Try.underlying37 (by kernel_rfl) (by kernel_rfl) k1 h1
  simp only [Lit.wf, IntKind.min, IntKind.max, IntKind.signed, IntKind.bits] at wf1 wf2
  simp at wf1 wf2
  exact (trims_core hb x y (by omega) (by omega) (by omega) (by omega)).mono fun e w' ⟨he, hk⟩ => ⟨he, hk.below (Nat.le_refl _) (fun _ h => h.elim)⟩

end Go.Proofs.Ytpikcbgkdnkeaaa
