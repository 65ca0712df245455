/- Contracts of package disk, fifth part: Flip. -/
import Derived.Test.YtpikcbgkdnkeaaaDisk4
set_option linter.unusedSimpArgs false
set_option linter.unusedVariables false
namespace Go.Proofs.Ytpikcbgkdnkeaaa
open Go.RowKit

section
variable {w w' : World} {p : Nat} {g : Option Nat} {sz ba sy li : Int} {bs : List UInt8}

theorem flip_all : ∀ x : Fin 256, ∀ n : Fin 8, 0 ≤ bits BinOp.xor IntKind.u8 (x.val : Int) (2 ^ n.val % 256) ∧ bits BinOp.xor IntKind.u8 (x.val : Int) (2 ^ n.val % 256) < 256 ∧
    bits BinOp.xor IntKind.u8 (bits BinOp.xor IntKind.u8 (x.val : Int) (2 ^ n.val % 256)) (2 ^ n.val % 256) = x.val := by decide +kernel

/-- A byte with one bit turned. -/
def flipB (x : UInt8) (n : Nat) : UInt8 := UInt8.ofNat (bits BinOp.xor IntKind.u8 (x.toNat : Int) (2 ^ n % 256)).toNat

theorem flipB_val (x : UInt8) {n : Nat} (h : n < 8) : bits BinOp.xor IntKind.u8 (x.toNat : Int) (2 ^ n % 256) = ((flipB x n).toNat : Int) := by
  have := flip_all ⟨x.toNat, x.toNat_lt⟩ ⟨n, h⟩
  simp only at this
  unfold flipB
  rw [UInt8.toNat_ofNat']
  omega

theorem flipB_twice (x : UInt8) {n : Nat} (h : n < 8) : flipB (flipB x n) n = x := by
  have := flip_all ⟨x.toNat, x.toNat_lt⟩ ⟨n, h⟩
  simp only at this
  have h2 := flipB_val x h
  have h3 := flipB_val (flipB x n) h
  rw [h2] at this
  rw [this.2.2] at h3
  exact UInt8.toNat_inj.1 (by omega)

set_option maxHeartbeats 800000 in
theorem flip_c (hd : IsDisk w p g sz ba bs sy li) (at_ bit : Int) (h1 : ba ≤ at_) (h3 : at_ < ba + bs.length) (h4 : 0 ≤ bit) (h5 : bit ≤ 7) :
    Calls Try.prog 18 #[.pointer (some ⟨p, 0, none⟩), .int .i64 at_, .int .i64 bit] w fun e w' => e = .returned (.int .i64 0) ∧ ∃ g', IsDisk w' p g' sz ba (bs.set (at_ - ba).toNat (flipB (bs.getD (at_ - ba).toNat 0) bit.toNat)) sy li ∧ Kept (· = p) w w' ∧ (∀ k, g' = some k → w.heap.size ≤ k) := by
  obtain ⟨i0, hi, hz0, hz1, hz2⟩ := info_parts info_u8
  obtain ⟨a, c, c0, c1, c2, c3, c4, f2, f3, f4, f0, f1, hown, hc, hcm, hp⟩ := hd.opened
  have hb := hd.baLo
  have hb2 := hd.baHi
  have hl := hd.len
  have hs := hd.szHi
  have hsz := hd.szLo
  have hsyl := hd.syLo
  have hsyh := hd.syHi
  have hli := hd.liLo
  have g1 : decide (ba ≤ at_) = true := by simpa using h1
  have g2 : decide (at_ ≤ ba + (bs.length : Int) - 1) = true := by simp; omega
  have g3 : decide (bit < 0) = false := by simp; omega
  have g4 : decide (7 < bit) = false := by simp; omega
  have e1 : IntKind.i64.wrap (at_ - ba) = at_ - ba := IntWalk.i64_in _ (by omega)
  go_enter Try.func18, Try.ntmps18
  go_wp2_with (first
    | (go_at_call 23; refine (made_c hd).mono ?_; rintro e w' ⟨rfl, rfl⟩)
    | (go_at_call 14; refine (end_c hd).mono ?_; rintro e w' ⟨rfl, n1, rfl⟩)
    | (go_at_call 24; refine (in_c (hd.drewN _) _ _).mono ?_; rintro e w' ⟨rfl, rfl⟩)
    | (at_builtin; refine wpList_append_Own rfl _ _ 22 22 rfl 5 i0 (.int .u8 0) 1 1 Try.underlying22 hi hz0 hz1 hz2 rfl rfl (Own.nil _ _ _) rfl (by exact Reads.src (hown.reads.drewN _) Try.underlying22 (bv_one _)) (by unfold maxLen; omega) (by omega) ?_; intro a1 k1 w1 g1' hown1 hk1 hg1; have hp1 : w1.heap[p]? = _ := (hk1.block p (lt_in hp) (by simp)).trans hp; have q1 := cell_in (k := 2) hp1; have q2 := frozen_in (k := 2) hp1))
  simp only [Nat.zero_add, List.nil_append] at hown1
  obtain ⟨b, off, cur, rfl, rfl, l1, l2, l3, l4, l5, l6⟩ := hown1.pos (by omega)
  have hbp : b ≠ p := hown1.ne hp1 (by decide) b rfl
  have hp2 := heap_setCell_same (o := 2) hp1 (.slice (some ⟨b, off, none⟩) bs.length k1)
  have hb3 : (w1.setCell ⟨p, 2, none⟩ (.slice (some ⟨b, off, none⟩) bs.length k1)).heap[b]? = some (.cells cur 5 (0, 0)) := (Below.heap_setCell _ _ _ _ hbp).trans l3
  have K1 : Kept (· = p) w' (w1.setCell ⟨p, 2, none⟩ (.slice (some ⟨b, off, none⟩) bs.length k1)) := (((Kept.refl (· = p) w').dN n1).trans (hk1.mono fun i _ e => by cases e)).st _ (.inl rfl)
  generalize w1.setCell ⟨p, 2, none⟩ (.slice (some ⟨b, off, none⟩) bs.length k1) = w2 at hp2 hb3 K1 ⊢
  have d1 : w2.cell? ⟨p, 1, none⟩ = some (.int .i64 ba) := cell_in hp2
  have d2 : w2.cell? ⟨p, 2, none⟩ = some (.slice (some ⟨b, off, none⟩) bs.length k1) := cell_in hp2
  obtain ⟨k, hk⟩ : ∃ k : Nat, k = (at_ - ba).toNat := ⟨_, rfl⟩
  have hkl : k < bs.length := by omega
  obtain ⟨x, hx⟩ : ∃ x, bs[k]? = some x := ⟨_, List.getElem?_eq_getElem hkl⟩
  have d3 : w2.cell? ⟨b, off + (at_ - ba).toNat, none⟩ = some (.int .u8 (x.toNat : Int)) := by
    rw [cell_in hb3, ← hk, l6 k (by simpa using hkl), List.getElem?_map, hx]; rfl
  have d4 : w2.frozen? ⟨b, off + (at_ - ba).toNat, none⟩ = false := frozen_in hb3
  have d5 : 0 ≤ at_ - ba := by omega
  have d6 : at_ - ba < (bs.length : Int) := by omega
  clear c0 c1 c2 c3 c4 f0 f1 f2 f3 f4 q1 q2
  have HK := Lib.hid hk
  have HX := Lib.hid hx
  clear hk hx
  refine wp_region_mix 0 16 (by kernel_rfl) (by kernel_rfl) (fun _ _ d _ _ h => by cases d <;> exact h) ?_
  simp only [List.take_succ_cons, List.take_zero, List.drop_succ_cons, List.drop_zero]
  repeat (quiet_step (fail))
  refine wpQuiet_nil ?_
  rintro _ ⟨nq, rfl⟩
  go_wp2
  go_ret
  rw [flipB_val x (by omega)]
  have hx := HX.out
  have hk := HK.out
  rw [← hk]
  have hgd : bs.getD k 0 = x := by rw [List.getD_eq_getElem?_getD, hx]; rfl
  rw [hgd]
  have hp3 : ((w2.drewN nq).setCell ⟨b, off + k, none⟩ (.int .u8 ((flipB x bit.toNat).toNat : Int))).heap[p]? = _ := (Below.heap_setCell _ _ _ _ (Ne.symm hbp)).trans hp2
  have hb4 : (w2.drewN nq).heap[b]? = some (.cells cur 5 (0, 0)) := hb3
  have hbn : w'.heap.size ≤ b := by
    rcases hg1 b rfl with e | e
    · cases e
    · exact e
  refine ⟨rfl, some b, ⟨⟨_, hp3, ?_⟩, hsz, hs, ?_, hb, hb2, hsyl, ?_, hli⟩, (K1.dN nq).st _ (.inr hbn), ?_⟩
  · refine ⟨by simp, .inr ⟨b, off, k1, _, rfl, ?_, ?_, l2, heap_setCell_same hb4 _, ?_, ?_⟩⟩
    · rw [List.length_set]
    · rw [List.length_set]; exact l1
    · simpa using l4
    · intro j hj
      simp only [List.length_map, List.length_set] at hj
      rw [Array.getElem?_setIfInBounds, List.getElem?_map, List.getElem?_set]
      by_cases hjk : k = j
      · subst hjk
        rw [if_pos rfl, if_pos rfl, if_pos hj, if_pos (by omega)]
        rfl
      · rw [if_neg (by omega), if_neg hjk, l6 j (by simpa using hj), List.getElem?_map]
  · rw [List.length_set]; exact hl
  · rw [List.length_set]; exact hsyh
  · rintro j ⟨⟩
    exact hbn

set_option maxHeartbeats 400000 in
theorem flip_no (hd : IsDisk w p g sz ba bs sy li) (at_ bit : Int) (h1 : ba ≤ at_) (h3 : at_ ≤ ba + bs.length) (h4 : 0 ≤ bit) (h5 : at_ = ba + bs.length ∨ 7 < bit) :
    Calls Try.prog 18 #[.pointer (some ⟨p, 0, none⟩), .int .i64 at_, .int .i64 bit] w fun e w' => e = .returned (.int .i64 22) ∧ ∃ n, w' = w.drewN n := by
  have hb := hd.baLo
  have hb2 := hd.baHi
  have hl := hd.len
  have hs := hd.szHi
  have g1 : decide (ba ≤ at_) = true := by simpa using h1
  have g3 : decide (bit < 0) = false := by simp; omega
  by_cases h6 : at_ = ba + bs.length
  · have g2 : decide (at_ ≤ ba + (bs.length : Int) - 1) = false := by simp; omega
    clear h6 h5
    go_enter Try.func18, Try.ntmps18
    go_wp2_with (first
      | (go_at_call 23; refine (made_c hd).mono ?_; rintro e w' ⟨rfl, rfl⟩)
      | (go_at_call 14; refine (end_c hd).mono ?_; rintro e w' ⟨rfl, n1, rfl⟩)
      | (go_at_call 24; refine (in_c (hd.drewN _) _ _).mono ?_; rintro e w' ⟨rfl, rfl⟩))
    go_ret
    exact ⟨rfl, _, rfl⟩
  · have g2 : decide (at_ ≤ ba + (bs.length : Int) - 1) = true := by simp; omega
    have g4 : decide (7 < bit) = true := by simp; omega
    clear h6 h5
    go_enter Try.func18, Try.ntmps18
    go_wp2_with (first
      | (go_at_call 23; refine (made_c hd).mono ?_; rintro e w' ⟨rfl, rfl⟩)
      | (go_at_call 14; refine (end_c hd).mono ?_; rintro e w' ⟨rfl, n1, rfl⟩)
      | (go_at_call 24; refine (in_c (hd.drewN _) _ _).mono ?_; rintro e w' ⟨rfl, rfl⟩))
    go_ret
    exact ⟨rfl, _, rfl⟩

end
end Go.Proofs.Ytpikcbgkdnkeaaa
