/- Contracts of package disk, second part. -/
import Derived.Test.YtpikcbgkdnkeaaaDisk
set_option linter.unusedSimpArgs false
set_option linter.unusedVariables false
namespace Go.Proofs.Ytpikcbgkdnkeaaa
open Go.RowKit

section
variable {w w' : World} {p : Nat} {g : Option Nat} {sz ba sy li : Int} {bs : List UInt8}

theorem size_u8 : (Try.prog.info? 5).map (·.size) = some 1 := by kernel_rfl

/-- Some of a disk's bytes. -/
def part (bs : List UInt8) (i n : Nat) : List UInt8 := (bs.drop i).take n

set_option maxHeartbeats 400000 in
theorem read_c (h : IsDisk w p g sz ba bs sy li) (at_ n : Int) (h1 : ba ≤ at_) (h2 : 0 ≤ n) (h3 : at_ + n ≤ ba + bs.length) :
    Calls Try.prog 13 #[.pointer (some ⟨p, 0, none⟩), .int .i64 at_, .int .i64 n] w fun e w' => ∃ v g', e = .returned (.tuple #[v, .int .i64 0]) ∧ Own w' 5 1 v n.toNat ((part bs (at_ - ba).toNat n.toNat).map bv) g' ∧ Kept (fun _ => False) w w' ∧ (∀ k, g' = some k → w.heap.size ≤ k) := by
  obtain ⟨i0, hi, hz0, hz1, hz2⟩ := info_parts info_u8
  obtain ⟨a, c, c0, c1, c2, c3, c4, f2, f3, f4, f0, f1, hown, hc, hcm, hp⟩ := h.opened
  have hb := h.baLo
  have hb2 := h.baHi
  have hl := h.len
  have hs := h.szHi
  have g1 : decide (ba ≤ at_) = true := by simpa using h1
  have g2 : decide (at_ ≤ ba + (bs.length : Int)) = true := by simp; omega
  have b1 : (at_ - ba).toNat ≤ (at_ - ba).toNat + n.toNat := by omega
  have b2 : (at_ - ba).toNat + n.toNat ≤ bs.length := by omega
  have b3 : 0 ≤ at_ - ba := by omega
  have b4 : at_ - ba ≤ at_ - ba + n := by omega
  have b5 : at_ - ba + n ≤ (c : Int) := by omega
  have b6 : (at_ - ba + n).toNat = (at_ - ba).toNat + n.toNat := by omega
  go_enter Try.func13, Try.ntmps13
  go_wp2_with (first
    | (go_at_call 23; refine (made_c h).mono ?_; rintro e w' ⟨rfl, rfl⟩)
    | (go_at_call 24; refine (in_c (h.drewN _) _ _).mono ?_; rintro e w' ⟨rfl, rfl⟩)
    | (go_at_call 14; refine (end_c (by first | exact h | exact h.drewN _)).mono ?_; rintro e w' ⟨rfl, n2, rfl⟩))
  obtain ⟨a2, c2', hsl, hrd⟩ := hown.reads.slice_run (P := Try.prog) (t := 22) (lo := at_ - ba) (hi := at_ - ba + n) (k := n.toNat) Try.underlying22 size_u8 hc (by omega) (by omega) (by omega)
  have e1 : IntKind.i64.wrap (at_ - ba) = at_ - ba := IntWalk.i64_in _ (by omega)
  have e2 : IntKind.i64.wrap (at_ - ba + n) = at_ - ba + n := IntWalk.i64_in _ (by omega)
  refine wp_region_tail 19 (by kernel_rfl) (by kernel_rfl) ?_
  simp only [List.take_succ_cons, List.take_zero, List.drop_succ_cons, List.drop_zero]
  repeat still_step
  refine wpStill_nil ?_
  go_wp2_with (first
    | (at_builtin; (refine wpList_append_Own rfl _ _ 22 22 rfl 5 i0 (.int .u8 0) 1 1 Try.underlying22 hi hz0 hz1 hz2 rfl rfl (Own.nil _ _ _) rfl (by exact Reads.src (by first | exact (hrd.drewN _).drew | exact hrd.drewN _) Try.underlying22 (by rw [← List.map_drop, ← List.map_take]; exact bv_one _)) (by unfold maxLen; omega) (by omega) ?_); intro a1 k1 w1 g1 hown1 hk1 hg1))
  go_ret2
  refine ⟨_, g1, rfl, ?_, (((Kept.refl _ _).dN _).dr).trans (hk1.mono fun _ _ e => by cases e), fun k hk => ?_⟩
  · rw [part, List.map_take, List.map_drop]
    simpa using hown1
  · rcases hg1 k hk with e | e
    · cases e
    · exact e

set_option maxHeartbeats 400000 in
theorem read_no (h : IsDisk w p g sz ba bs sy li) (at_ n : Int) (h1 : ba ≤ at_) (h2 : 0 ≤ n) (h4 : at_ ≤ ba + bs.length) (h3 : ba + bs.length < at_ + n) :
    Calls Try.prog 13 #[.pointer (some ⟨p, 0, none⟩), .int .i64 at_, .int .i64 n] w fun e w' => e = .returned (.tuple #[.slice none 0 0, .int .i64 22]) ∧ ∃ n, w' = w.drewN n := by
  have hb := h.baLo
  have hb2 := h.baHi
  have hl := h.len
  have hs := h.szHi
  have g1 : decide (ba ≤ at_) = true := by simpa using h1
  have g2 : decide (at_ ≤ ba + (bs.length : Int)) = true := by simp; omega
  have g3 : decide (n < 0) = false := by simp; omega
  have g4 : decide (ba + (bs.length : Int) - at_ < n) = true := by simp; omega
  go_enter Try.func13, Try.ntmps13
  go_wp2_with (first
    | (go_at_call 23; refine (made_c h).mono ?_; rintro e w' ⟨rfl, rfl⟩)
    | (go_at_call 24; refine (in_c (h.drewN _) _ _).mono ?_; rintro e w' ⟨rfl, rfl⟩)
    | (go_at_call 14; refine (end_c (by first | exact h | exact h.drewN _)).mono ?_; rintro e w' ⟨rfl, n2, rfl⟩))
  go_ret2
  exact ⟨rfl, _, rfl⟩

set_option maxHeartbeats 400000 in
theorem cut_c (h : IsDisk w p g sz ba bs sy li) (at_ : Int) (h1 : ba ≤ at_) (h3 : at_ ≤ ba + bs.length) (hfz : frz li (ba + bs.length) = false) :
    Calls Try.prog 21 #[.pointer (some ⟨p, 0, none⟩), .int .i64 at_] w fun e w' => e = .returned (.int .i64 0) ∧ IsDisk w' p g sz ba (bs.take (at_ - ba).toNat) (min sy at_) li ∧ Kept (· = p) w w' := by
  obtain ⟨a, c, c0, c1, c2, c3, c4, f2, f3, f4, f0, f1, hown, hc, hcm, hp⟩ := h.opened
  have hb := h.baLo
  have hb2 := h.baHi
  have hl := h.len
  have hs := h.szHi
  have hsl := h.syLo
  have hsh := h.syHi
  have g1 : decide (ba ≤ at_) = true := by simpa using h1
  have g2 : decide (at_ ≤ ba + (bs.length : Int)) = true := by simp; omega
  have HB := Lib.hid hfz
  clear hfz
  go_enter Try.func21, Try.ntmps21
  go_wp2_with (first
    | (go_at_call 23; refine (made_c h).mono ?_; rintro e w' ⟨rfl, rfl⟩)
    | (go_at_call 24; refine (in_c (h.drewN _) _ _).mono ?_; rintro e w' ⟨rfl, rfl⟩)
    | (go_at_call 11; refine (frozen_c (h.drewN _) false HB.out).mono ?_; rintro e w' ⟨rfl, n1, rfl⟩)
    | (go_at_call 14; refine (end_c (by first | exact h | exact h.drewN _)).mono ?_; rintro e w' ⟨rfl, n2, rfl⟩))
  obtain ⟨a2, c2', hsl, hrd⟩ := hown.slice3_run (P := Try.prog) (t := 22) (hi := at_ - ba) Try.underlying22 size_u8 hc (by omega) (by omega)
  rw [Nat.mul_one] at hrd
  have hli := h.liLo
  have hsz := h.szLo
  have e1 : IntKind.i64.wrap (at_ - ba) = at_ - ba := IntWalk.i64_in _ (by omega)
  refine wp_region_tail 20 (by kernel_rfl) (by kernel_rfl) ?_
  simp only [List.take_succ_cons, List.take_zero, List.drop_succ_cons, List.drop_zero]
  repeat still_step
  refine wpStill_nil ?_
  go_wp2
  all_goals
    go_ret
    have hmin : min sy at_ ≤ sy ∧ min sy at_ ≤ at_ ∧ ba ≤ min sy at_ := by omega
    have K1 : Kept (· = p) w' (((w'.drewN (n2 + n1 + 1)).setCell ⟨p, 2, none⟩ (Value.slice a2 (at_ - ba).toNat c2'))) := ((Kept.refl _ _).dN _).st _ (.inl rfl)
    have hp2 : (w'.drewN (n2 + n1 + 1)).heap[p]? = _ := hp
    refine ⟨rfl, ⟨⟨_, heap_setCell_same (heap_setCell_same hp2 _) _, ?_⟩, ?_, ?_, ?_, ?_, ?_, ?_, ?_, ?_⟩, K1.st _ (.inl rfl)⟩
    · rw [List.map_take, List.length_take, Nat.min_eq_left (by omega)]
      exact hrd.kept (K1.st _ (.inl rfl)) (hown.ne hp (by decide))
    all_goals ((try simp only [List.length_take]); omega)

end
end Go.Proofs.Ytpikcbgkdnkeaaa
